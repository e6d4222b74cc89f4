/- The walks over mime's kind and cuts: each returns what its plain function says. Condition: bytealg.MaxLen lies. -/
import Derived.Test.YtmjfhhladicacaaGreatDoorHeadG
import Derived.Test.YtmjfhhladicacaaGreatDoorPHead5
import Derived.Test.YtmjfhhladicacaaGreatDoorPMime2
import Derived.Shelf.Strings.Split
import Derived.Deep.AppendLies
namespace Go.Proofs.YtmjfhhladicacaaGreatDoor
open Go.RowKit Go.Shelf

theorem trimRight_two (l : List UInt8) (W : World) (hs : l.length ≤ 9223372036854775807) :
    Calls Tryz.prog 50 #[.string ⟨l.toArray⟩, .string ⟨#[32, 9]⟩] W fun e w' => e = .returned (.string ⟨(Lib.trimRightS l [32, 9]).toArray⟩) ∧ Below W.heap.size W w' :=
  Any.strings_TrimRight_laid Tryz.lays162 zero92 ⟨l.toArray⟩ ⟨#[32, 9]⟩ W (by rw [text_size]; exact hs) (by decide) (ascii_of_all (by decide))
theorem count_nl (l : List UInt8) (W : World) (hs : l.length ≤ 1000000000) (hM : MaxL W) :
    Calls Tryz.prog 27 #[.string ⟨l.toArray⟩, .string ⟨#[10]⟩] W fun e w' => e = .returned (.int .i64 (Lib.count l [10])) ∧ w' = W := by
  obtain ⟨m, hm⟩ := hM
  exact Any.strings_Count_any Tryz.lays138 ⟨l.toArray⟩ ⟨#[10]⟩ m W (by rw [text_size]; omega) hm (by decide)
theorem index_nl (l : List UInt8) (W : World) (hs : l.length ≤ 1000000000) (hM : MaxL W) :
    Calls Tryz.prog 24 #[.string ⟨l.toArray⟩, .string ⟨#[13, 10]⟩] W fun e w' => e = .returned (.int .i64 (Lib.index l [13, 10])) ∧ w' = W := by
  obtain ⟨m, hm⟩ := hM
  exact Tryz.strings_Index ⟨l.toArray⟩ ⟨#[13, 10]⟩ m W (by rw [text_size]; omega) hm
theorem getF_len {s : List UInt8} {l : List Fld} {n v : List UInt8} (h : fieldsL s = .inr l) (hv : getF l n = some v) : v.length ≤ 5 * s.length + 20 := by
  refine Nat.le_trans ?_ (print_le h)
  unfold getF at hv
  obtain ⟨f, hf, rfl⟩ := Option.map_eq_some_iff.1 hv
  obtain ⟨a, b, rfl⟩ := List.append_of_mem (List.mem_of_find?_eq_some hf)
  unfold printF lineF
  simp
  omega

set_option maxRecDepth 100000 in
set_option maxHeartbeats 4000000 in
theorem kind_any (S : List UInt8) (w : World) (hs : S.length ≤ 9000) (hM : MaxL w) :
    Calls Tryz.prog 28 #[.string ⟨S.toArray⟩] w fun e w' => e = .returned (.tuple #[.string ⟨(kindF S).1.toArray⟩, .string ⟨(kindF S).2.toArray⟩]) ∧ Below w.heap.size w w' := by
  have hK : kindF S = match fieldsL S with | .inl _ => (tpS, []) | .inr l => kindOf l := rfl
  have hlen := fun l (h : fieldsL S = .inr l) => fun v (hv : getF l ctS = some v) => getF_len h hv
  cases hR : fieldsL S with
  | inl x =>
    have cF := fields_err S x w hR hs hM
    rw [hR] at hK
    rw [hK]
    clear hK hlen hR
    go_enter Tryz.func28, Tryz.ntmps28
    go_wp2_with (go_at_call 43; with_reducible refine cF.mono ?_; rintro e w1 ⟨g, rfl, h1, h2, hb⟩)
    go_ret2
    exact ⟨rfl, hb⟩
  | inr l =>
    have cF := fields_ok S l w hR hs hM
    have hl2 := hlen l hR
    rw [hR] at hK
    have hK2 : kindF S = match getF l ctS with | none => (tpS, []) | some v => (smallL (trimB (Lib.cut v [59]).1), (paramL v bnS).getD []) := hK
    have cG := fun u W hv hl => get_any u l ctS W hv hl (by decide)
    cases hv : getF l ctS with
    | none =>
      rw [hv] at hK2 cG
      rw [hK2]
      unfold ctS at cG
      clear hK hK2 hlen hR hl2 hv
      go_enter Tryz.func28, Tryz.ntmps28
      go_wp2_with (first
        | (go_at_call 43; with_reducible refine cF.mono ?_; rintro e w1 ⟨ao, cap, rfl, h1, h2, hb⟩)
        | (go_at_call 44; with_reducible refine (cG _ _ h1 h2).mono ?_; rintro e w2 ⟨rfl, hb2⟩))
      go_ret2
      exact ⟨rfl, hb.trans (hb2.mono hb.size)⟩
    | some v =>
      have hvl := hl2 v hv
      rw [hv] at hK2 cG
      have hK3 : kindF S = (smallL (trimB (Lib.cut v [59]).1), (paramL v bnS).getD []) := hK2
      rw [hK3]
      clear hK3
      unfold ctS at cG
      have hcl := cut_len v [59]
      have cC := fun W hM => cut_l v 59 W (by omega) hM
      have cP := fun W hM => param_any v bnS W (by omega) (by decide) hM
      generalize paramL v bnS = PP at cP ⊢
      unfold bnS at cP
      generalize Lib.cut v [59] = C at cC hcl ⊢
      obtain ⟨c1, c2, c3⟩ := C
      simp only at cC hcl
      have cT := fun W => trim_two c1 W (by omega)
      have htl : (trimB c1).length ≤ c1.length := trimS_len c1 _
      have cS := fun W => small_any ⟨(trimB c1).toArray⟩ W (by rw [text_size]; omega)
      simp only [List.toList_toArray] at cS
      clear hK hK2 hlen hR hl2 hv
      go_enter Tryz.func28, Tryz.ntmps28
      go_wp2_with (first
        | (go_at_call 43; with_reducible refine cF.mono ?_; rintro e w1 ⟨ao, cap, rfl, h1, h2, hb⟩; have y := hb)
        | (go_at_call 44; with_reducible refine (cG _ _ h1 h2).mono ?_; rintro e w2 ⟨rfl, hb2⟩; have y := y.trans (hb2.mono y.size))
        | (go_at_call 45; with_reducible refine (cC _ (hM.below y)).mono ?_; rintro e w3 ⟨rfl, hb3⟩; have y := y.trans (hb3.mono y.size))
        | (go_at_call 47; with_reducible refine (cT _).mono ?_; rintro e w4 ⟨rfl, hb4⟩; have y := y.trans (hb4.mono y.size))
        | (go_at_call 46; with_reducible refine (cS _).mono ?_; rintro e w5 ⟨rfl, hb5⟩; have y := y.trans (hb5.mono y.size))
        | (go_at_call 48; with_reducible refine (cP _ (hM.below y)).mono ?_; rintro e w6 ⟨rfl, hb6⟩; have y := y.trans (hb6.mono y.size)))
      go_ret2
      exact ⟨rfl, y⟩

/-- what the parser's block holds -/
def ParsAt (W : World) (Q : Nat) (s : List UInt8) (n : Nat) : Prop := W.heap[Q]? = some (.cells #[.string ⟨s.toArray⟩, .int .i64 (n : Int)] 45 (0, 0))
def cutCells (l : List (Nat × Nat)) : List Value := l.flatMap fun c => [Value.int .i64 (c.1 : Int), Value.int .i64 (c.2 : Int)]
theorem cutCells_snoc (l : List (Nat × Nat)) (c : Nat × Nat) : cutCells l ++ [Value.int .i64 (c.1 : Int), Value.int .i64 (c.2 : Int)] = cutCells (l ++ [c]) := by simp [cutCells]
theorem cutCells_at : ∀ (l : List (Nat × Nat)) (j : Nat) (c : Nat × Nat), l[j]? = some c → (cutCells l)[j * 2]? = some (Value.int .i64 (c.1 : Int)) ∧ (cutCells l)[j * 2 + 1]? = some (Value.int .i64 (c.2 : Int))
  | [], j, c, h => by simp at h
  | d :: l, 0, c, h => by simp at h; subst h; exact ⟨rfl, rfl⟩
  | d :: l, j + 1, c, h => by
    have := cutCells_at l j c (by simpa using h)
    have e : cutCells (d :: l) = Value.int .i64 (d.1 : Int) :: Value.int .i64 (d.2 : Int) :: cutCells l := rfl
    rw [e, show (j + 1) * 2 = (j * 2 + 1) + 1 by omega, show (j * 2 + 1) + 1 + 1 = (j * 2 + 1 + 1) + 1 by omega]
    simpa using this
/-- a slice of cuts -/
def CutRow (W : World) (lo : Nat) (v : Value) (l : List (Nat × Nat)) : Prop :=
  ∃ ao cap, v = .slice ao l.length cap ∧ ∀ (j : Nat) (c : Nat × Nat), l[j]? = some c → ∃ g, ao = some ⟨g, 0, none⟩ ∧ lo ≤ g ∧ g < W.heap.size ∧ W.cell? ⟨g, j * 2, none⟩ = some (.int .i64 (c.1 : Int)) ∧ W.cell? ⟨g, j * 2 + 1, none⟩ = some (.int .i64 (c.2 : Int))
theorem cutRow_of_owns {w : World} {B : Nat} {v : Value} {l : List (Nat × Nat)} (h : w.ownsRow B 69 2 v l.length (cutCells l)) : CutRow w B v l := by
  rcases h.2 with ⟨rfl, h0⟩ | ⟨g, cap, cur, rfl, hg, hh, h3, h4, h5, h6⟩
  · refine ⟨none, 0, by rw [h0], ?_⟩
    have : l = [] := List.eq_nil_of_length_eq_zero h0
    subst this
    intro j c hj; simp at hj
  · refine ⟨_, cap, rfl, fun j c hj => ⟨g, rfl, hg, (Array.getElem?_eq_some_iff.1 hh).1, ?_⟩⟩
    have hjl : j < l.length := (List.getElem?_eq_some_iff.1 hj).1
    have hc := cutCells_at l j c hj
    exact ⟨(h.cellAt (j * 2) (by omega)).trans hc.1, (h.cellAt (j * 2 + 1) (by omega)).trans hc.2⟩
theorem cut_info : (Tryz.prog.info? 69).map (fun i => (i.zero, i.size, i.bytes)) = some (some (.agg #[.int .i64 0, .int .i64 0]), 2, 16) := by kernel_rfl
def opI (op : Option Nat) : Int := match op with | none => -1 | some o => (o : Int)

set_option maxRecDepth 100000 in
set_option maxHeartbeats 16000000 in
theorem cuts_any (S b : List UInt8) (Q n fr te : Nat) (w : World) (hS : S.length ≤ 100000) (hb : b.length ≤ 1000000) (hft : fr ≤ te) (hto : te ≤ S.length) (hQ : ParsAt w Q S n) (hM : MaxL w) :
    Calls Tryz.prog 30 #[.pointer (some ⟨Q, 0, none⟩), .int .i64 (fr : Int), .int .i64 (te : Int), .string ⟨b.toArray⟩] w fun e w' => ∃ v, e = .returned v ∧ CutRow w' w.heap.size v (cutsF S te b (te + 1) fr none []) ∧ (cutsF S te b (te + 1) fr none []).length ≤ te ∧ Below w.heap.size w w' := by
  obtain ⟨R, hR⟩ : ∃ R, cutsF S te b (te + 1) fr none [] = R := ⟨_, rfl⟩
  rw [hR]
  have HR := Lib.hid hR
  clear hR
  have hts := text_size S
  have hbs := text_size b
  have q0 := (two_cells hQ).1
  have hQl : Q < w.heap.size := (Array.getElem?_eq_some_iff.1 hQ).1
  obtain ⟨N1, hN1⟩ : ∃ N1, N1 = 45 :: 45 :: b := ⟨_, rfl⟩
  obtain ⟨N2, hN2⟩ : ∃ N2, N2 = 45 :: 45 :: (b ++ [45, 45]) := ⟨_, rfl⟩
  have ha1 : (⟨#[45, 45]⟩ : ByteArray) ++ ⟨b.toArray⟩ = ⟨N1.toArray⟩ := by rw [hN1]; exact text_cat [45, 45] b
  have ha2 : (⟨N1.toArray⟩ : ByteArray) ++ ⟨#[45, 45]⟩ = ⟨N2.toArray⟩ := by rw [hN1, hN2]; exact (text_cat (45 :: 45 :: b) [45, 45])
  have hN1s := text_size N1
  have hN1l : N1.length = b.length + 2 := by rw [hN1]; rfl
  have hN12 : N1 ≠ N2 := by
    rw [hN1, hN2]
    intro h
    have := congrArg List.length h
    simp at this
  have HN1 := Lib.hid hN1
  have HN2 := Lib.hid hN2
  clear hN1 hN2
  go_enter Tryz.func30, Tryz.ntmps30
  go_wp2_with fail
  go_loopg [9, 10, 11] (te + 1) (fun g s9 s10 s11 wr => ∃ (f a : Nat) (op : Option Nat) (out : List (Nat × Nat)), s11 = .int .i64 (a : Int) ∧ s10 = .int .i64 (opI op) ∧ a ≤ te ∧ te + 1 ≤ a + g ∧ te + 1 ≤ a + f ∧ (∀ o, op = some o → o ≤ a) ∧ out.length + (if op = none then 0 else 1) ≤ a ∧
    wr.ownsRow w.heap.size 69 2 s9 out.length (cutCells out) ∧ Below w.heap.size w wr ∧ Hid (cutsF S te b f a op out = R))
  case atStart => exact ⟨te + 1, fr, none, [], rfl, rfl, hft, by omega, by omega, (fun o ho => by cases ho), by simp, World.ownsRow_nil _ _ _ _, Below.refl _ _, HR.out⟩
  case round =>
    obtain ⟨f, a, op, out, rfl, rfl, hat, hg, hfu, hop, hol, hown, hbr, Hf⟩ := hrel
    have hMr := hM.below hbr
    have r0 := (hbr.cell (p := ⟨Q, 0, none⟩) hQl).trans q0
    by_cases hlt : a < te
    · obtain ⟨f', rfl⟩ : ∃ f', f = f' + 1 := ⟨f - 1, by omega⟩
      have hltz : (a : Int) < (te : Int) := by omega
      have hpt1 : (⟨S.toArray⟩ : ByteArray).extract a te = ⟨((S.drop a).take (te - a)).toArray⟩ := text_part S a te
      have htl : ((S.drop a).take (te - a)).length = te - a := by rw [List.length_take, List.length_drop]; omega
      have cI := index_nl ((S.drop a).take (te - a)) wr (by omega) hMr
      rw [← hpt1] at cI
      have hroom := Lib.index_room ((S.drop a).take (te - a)) [13, 10]
      have hge := Lib.index_ge ((S.drop a).take (te - a)) [13, 10]
      have hleE : lineEnd S te a = if Lib.index ((S.drop a).take (te - a)) [13, 10] < 0 then te else a + (Lib.index ((S.drop a).take (te - a)) [13, 10]).toNat := rfl
      have hE1 : a ≤ lineEnd S te a := lineEnd_ge (Nat.le_of_lt hlt)
      have hE2 : lineEnd S te a ≤ te := lineEnd_le (Nat.le_of_lt hlt)
      obtain ⟨E, hE⟩ : ∃ E, lineEnd S te a = E := ⟨_, rfl⟩
      have hlo : lineOf S te a = Lib.trimRightS ((S.drop a).take (E - a)) [32, 9] := by unfold lineOf; rw [hE]
      have hno : nextOf S te a = min (E + 2) te := by unfold nextOf; rw [hE]
      rw [hE] at hleE hE1 hE2
      have hpt2 : (⟨S.toArray⟩ : ByteArray).extract a E = ⟨((S.drop a).take (E - a)).toArray⟩ := text_part S a E
      have hel : ((S.drop a).take (E - a)).length = E - a := by rw [List.length_take, List.length_drop]; omega
      have cT := fun W => trimRight_two ((S.drop a).take (E - a)) W (by omega)
      rw [← hpt2] at cT
      have hst := Hf.out
      rw [cutsF, if_pos hlt, hlo, hno, ← HN1.out, ← HN2.out] at hst
      generalize Lib.trimRightS ((S.drop a).take (E - a)) [32, 9] = A at cT hst
      obtain ⟨X, hX⟩ : ∃ X, min (E + 2) te = X := ⟨_, rfl⟩
      have hXz : min ((E : Int) + 2) (te : Int) = (X : Int) := by omega
      have hXa : a < X := by omega
      have hXt : X ≤ te := by omega
      rw [hX] at hst
      obtain ⟨K, hK⟩ : ∃ K, Lib.index ((S.drop a).take (te - a)) [13, 10] = K := ⟨_, rfl⟩
      rw [hK] at cI hroom hge hleE
      have hkc : (K < 0 ∧ E = te) ∨ (∃ k : Nat, K = k ∧ E = a + k) := by
        rcases Int.lt_or_le K 0 with h0 | h0
        · exact Or.inl ⟨h0, by rw [if_pos h0] at hleE; exact hleE⟩
        · obtain ⟨k, rfl⟩ := Int.eq_ofNat_of_zero_le h0
          exact Or.inr ⟨k, rfl, by rw [if_neg (by omega), Int.toNat_natCast] at hleE; exact hleE⟩
      have hatz : (a : Int) ≤ (te : Int) := by omega
      have hE1z : (a : Int) ≤ (E : Int) := by omega
      have hE2z : (E : Int) ≤ (S.length : Int) := by omega
      have htoz : (te : Int) ≤ (S.length : Int) := by omega
      clear hpt1 hpt2 hK hleE hroom hlo hno hE Hf
      rcases hkc with ⟨h0, hEt⟩ | ⟨k, rfl, rfl⟩
      · have hEt2 := hEt.symm
        subst hEt2
        have h0z : decide ((0 : Int) ≤ K) = false := by rw [decide_eq_false_iff_not]; omega
        by_cases c1 : A = N1
        · subst c1
          rw [if_pos (Or.inl rfl), if_neg (fun h => h rfl)] at hst
          cases op with
          | none =>
            have HX : Hid (cutsF S te b f' X (some X) out = R) := hst
            have hol2 : out.length ≤ a := by simpa using hol
            have hopI : opI none = -1 := rfl
            clear hst
            go_wp2_with (first
              | (go_at_call 24; with_reducible refine cI.mono ?_; rintro e w1 ⟨rfl, hw⟩; rw [hw]; clear hw)
              | (go_at_call 50; with_reducible refine (cT _).mono ?_; rintro e w2 ⟨rfl, h2⟩; have y := hbr.trans (h2.mono hbr.size); have o2 := owns_below hown h2))
            go_roundg (te + 1 - X)
            case measure => omega
            case rel => exact ⟨f', X, some X, out, rfl, rfl, hXt, by omega, by omega, (fun o ho => by cases ho; exact Nat.le_refl _), (by show out.length + 1 ≤ X; omega), o2, y, HX.out⟩
          | some o =>
            have hoa := hop o rfl
            obtain ⟨M, hM2⟩ : ∃ M, max o (a - 2) = M := ⟨_, rfl⟩
            have HX : Hid (cutsF S te b f' X (some X) (out ++ [(o, M)]) = R) := by rw [← hM2]; exact hst
            have hMz : max (o : Int) ((a : Int) - 2) = (M : Int) := by omega
            have hol2 : out.length + 1 ≤ a := by simpa using hol
            have hopI : opI (some o) = (o : Int) := rfl
            have hoz : (0 : Int) ≤ (o : Int) := by omega
            have hMa : M ≤ a := by omega
            clear hst hM2
            go_wp2_with (first
              | (go_at_call 24; with_reducible refine cI.mono ?_; rintro e w1 ⟨rfl, hw⟩; rw [hw]; clear hw)
              | (go_at_call 50; with_reducible refine (cT _).mono ?_; rintro e w2 ⟨rfl, h2⟩; have y := hbr.trans (h2.mono hbr.size); have o2 := owns_below hown h2)
              | (at_builtin; go_must (refine wpList_app2 rfl _ _ 66 rfl 69 Tryz.underlying66 cut_info rfl w.heap.size _ _ _ _ rfl o2 (.int .i64 (o : Int)) (.int .i64 (M : Int)) rfl rfl rfl ?c3 (by decide) ?c5 ?_)))
            case c3 => omega
            case c5 => exact y.size
            intro v' w3 hown3 hg3 hv3
            have y3 := below_app2 y y.size o2 hg3
            rw [cutCells_snoc out (o, M)] at hown3
            have hown4 : w3.ownsRow w.heap.size 69 2 v' (out ++ [(o, M)]).length (cutCells (out ++ [(o, M)])) := by simpa using hown3
            go_wp2_with fail
            go_roundg (te + 1 - X)
            case measure => omega
            case rel => exact ⟨f', X, some X, out ++ [(o, M)], rfl, rfl, hXt, by omega, by omega, (fun o ho => by cases ho; exact Nat.le_refl _), (by show (out ++ [(o, M)]).length + 1 ≤ X; simp; omega), hown4, y3, HX.out⟩
        · have c1b : (A == N1) = false := by simpa using c1
          by_cases c2 : A = N2
          · subst c2
            rw [if_pos (Or.inr rfl), if_pos c1] at hst
            cases op with
            | none =>
              have HX : Hid (out = R) := hst
              have hol2 : out.length ≤ a := by simpa using hol
              have hopI : opI none = -1 := rfl
              clear hst
              go_wp2_with (first
                | (go_at_call 24; with_reducible refine cI.mono ?_; rintro e w1 ⟨rfl, hw⟩; rw [hw]; clear hw)
                | (go_at_call 50; with_reducible refine (cT _).mono ?_; rintro e w2 ⟨rfl, h2⟩; have y := hbr.trans (h2.mono hbr.size); have o2 := owns_below hown h2))
              go_ret
              exact ⟨_, rfl, by rw [← HX.out]; exact cutRow_of_owns o2, by rw [← HX.out]; omega, y⟩
            | some o =>
              have hoa := hop o rfl
              obtain ⟨M, hM2⟩ : ∃ M, max o (a - 2) = M := ⟨_, rfl⟩
              have HX : Hid (out ++ [(o, M)] = R) := by rw [← hM2]; exact hst
              have hMz : max (o : Int) ((a : Int) - 2) = (M : Int) := by omega
              have hol2 : out.length + 1 ≤ a := by simpa using hol
              have hopI : opI (some o) = (o : Int) := rfl
              have hoz : (0 : Int) ≤ (o : Int) := by omega
              clear hst hM2
              go_wp2_with (first
                | (go_at_call 24; with_reducible refine cI.mono ?_; rintro e w1 ⟨rfl, hw⟩; rw [hw]; clear hw)
                | (go_at_call 50; with_reducible refine (cT _).mono ?_; rintro e w2 ⟨rfl, h2⟩; have y := hbr.trans (h2.mono hbr.size); have o2 := owns_below hown h2)
                | (at_builtin; go_must (refine wpList_app2 rfl _ _ 66 rfl 69 Tryz.underlying66 cut_info rfl w.heap.size _ _ _ _ rfl o2 (.int .i64 (o : Int)) (.int .i64 (M : Int)) rfl rfl rfl ?c3 (by decide) ?c5 ?_)))
              case c3 => omega
              case c5 => exact y.size
              intro v' w3 hown3 hg3 hv3
              have y3 := below_app2 y y.size o2 hg3
              rw [cutCells_snoc out (o, M)] at hown3
              have hown4 : w3.ownsRow w.heap.size 69 2 v' (out ++ [(o, M)]).length (cutCells (out ++ [(o, M)])) := by simpa using hown3
              go_wp2_with fail
              go_ret
              exact ⟨_, rfl, by rw [← HX.out]; exact cutRow_of_owns hown4, (by rw [← HX.out]; simp; omega), y3⟩
          · have c2b : (A == N2) = false := by simpa using c2
            rw [if_neg (fun h => h.elim c1 c2)] at hst
            have HX : Hid (cutsF S te b f' X op out = R) := hst
            clear hst
            go_wp2_with (first
              | (go_at_call 24; with_reducible refine cI.mono ?_; rintro e w1 ⟨rfl, hw⟩; rw [hw]; clear hw)
              | (go_at_call 50; with_reducible refine (cT _).mono ?_; rintro e w2 ⟨rfl, h2⟩; have y := hbr.trans (h2.mono hbr.size); have o2 := owns_below hown h2))
            go_roundg (te + 1 - X)
            case measure => omega
            case rel => exact ⟨f', X, op, out, rfl, rfl, hXt, by omega, by omega, (fun o ho => by have := hop o ho; omega), by omega, o2, y, HX.out⟩
      · have h0z : (0 : Int) ≤ (k : Int) := by omega
        have hXz2 : min ((a : Int) + (k : Int) + 2) (te : Int) = (X : Int) := by omega
        by_cases c1 : A = N1
        · subst c1
          rw [if_pos (Or.inl rfl), if_neg (fun h => h rfl)] at hst
          cases op with
          | none =>
            have HX : Hid (cutsF S te b f' X (some X) out = R) := hst
            have hol2 : out.length ≤ a := by simpa using hol
            have hopI : opI none = -1 := rfl
            clear hst
            go_wp2_with (first
              | (go_at_call 24; with_reducible refine cI.mono ?_; rintro e w1 ⟨rfl, hw⟩; rw [hw]; clear hw)
              | (go_at_call 50; with_reducible refine (cT _).mono ?_; rintro e w2 ⟨rfl, h2⟩; have y := hbr.trans (h2.mono hbr.size); have o2 := owns_below hown h2))
            go_roundg (te + 1 - X)
            case measure => omega
            case rel => exact ⟨f', X, some X, out, rfl, rfl, hXt, by omega, by omega, (fun o ho => by cases ho; exact Nat.le_refl _), (by show out.length + 1 ≤ X; omega), o2, y, HX.out⟩
          | some o =>
            have hoa := hop o rfl
            obtain ⟨M, hM2⟩ : ∃ M, max o (a - 2) = M := ⟨_, rfl⟩
            have HX : Hid (cutsF S te b f' X (some X) (out ++ [(o, M)]) = R) := by rw [← hM2]; exact hst
            have hMz : max (o : Int) ((a : Int) - 2) = (M : Int) := by omega
            have hol2 : out.length + 1 ≤ a := by simpa using hol
            have hopI : opI (some o) = (o : Int) := rfl
            have hoz : (0 : Int) ≤ (o : Int) := by omega
            have hMa : M ≤ a := by omega
            clear hst hM2
            go_wp2_with (first
              | (go_at_call 24; with_reducible refine cI.mono ?_; rintro e w1 ⟨rfl, hw⟩; rw [hw]; clear hw)
              | (go_at_call 50; with_reducible refine (cT _).mono ?_; rintro e w2 ⟨rfl, h2⟩; have y := hbr.trans (h2.mono hbr.size); have o2 := owns_below hown h2)
              | (at_builtin; go_must (refine wpList_app2 rfl _ _ 66 rfl 69 Tryz.underlying66 cut_info rfl w.heap.size _ _ _ _ rfl o2 (.int .i64 (o : Int)) (.int .i64 (M : Int)) rfl rfl rfl ?c3 (by decide) ?c5 ?_)))
            case c3 => omega
            case c5 => exact y.size
            intro v' w3 hown3 hg3 hv3
            have y3 := below_app2 y y.size o2 hg3
            rw [cutCells_snoc out (o, M)] at hown3
            have hown4 : w3.ownsRow w.heap.size 69 2 v' (out ++ [(o, M)]).length (cutCells (out ++ [(o, M)])) := by simpa using hown3
            go_wp2_with fail
            go_roundg (te + 1 - X)
            case measure => omega
            case rel => exact ⟨f', X, some X, out ++ [(o, M)], rfl, rfl, hXt, by omega, by omega, (fun o ho => by cases ho; exact Nat.le_refl _), (by show (out ++ [(o, M)]).length + 1 ≤ X; simp; omega), hown4, y3, HX.out⟩
        · have c1b : (A == N1) = false := by simpa using c1
          by_cases c2 : A = N2
          · subst c2
            rw [if_pos (Or.inr rfl), if_pos c1] at hst
            cases op with
            | none =>
              have HX : Hid (out = R) := hst
              have hol2 : out.length ≤ a := by simpa using hol
              have hopI : opI none = -1 := rfl
              clear hst
              go_wp2_with (first
                | (go_at_call 24; with_reducible refine cI.mono ?_; rintro e w1 ⟨rfl, hw⟩; rw [hw]; clear hw)
                | (go_at_call 50; with_reducible refine (cT _).mono ?_; rintro e w2 ⟨rfl, h2⟩; have y := hbr.trans (h2.mono hbr.size); have o2 := owns_below hown h2))
              go_ret
              exact ⟨_, rfl, by rw [← HX.out]; exact cutRow_of_owns o2, by rw [← HX.out]; omega, y⟩
            | some o =>
              have hoa := hop o rfl
              obtain ⟨M, hM2⟩ : ∃ M, max o (a - 2) = M := ⟨_, rfl⟩
              have HX : Hid (out ++ [(o, M)] = R) := by rw [← hM2]; exact hst
              have hMz : max (o : Int) ((a : Int) - 2) = (M : Int) := by omega
              have hol2 : out.length + 1 ≤ a := by simpa using hol
              have hopI : opI (some o) = (o : Int) := rfl
              have hoz : (0 : Int) ≤ (o : Int) := by omega
              clear hst hM2
              go_wp2_with (first
                | (go_at_call 24; with_reducible refine cI.mono ?_; rintro e w1 ⟨rfl, hw⟩; rw [hw]; clear hw)
                | (go_at_call 50; with_reducible refine (cT _).mono ?_; rintro e w2 ⟨rfl, h2⟩; have y := hbr.trans (h2.mono hbr.size); have o2 := owns_below hown h2)
                | (at_builtin; go_must (refine wpList_app2 rfl _ _ 66 rfl 69 Tryz.underlying66 cut_info rfl w.heap.size _ _ _ _ rfl o2 (.int .i64 (o : Int)) (.int .i64 (M : Int)) rfl rfl rfl ?c3 (by decide) ?c5 ?_)))
              case c3 => omega
              case c5 => exact y.size
              intro v' w3 hown3 hg3 hv3
              have y3 := below_app2 y y.size o2 hg3
              rw [cutCells_snoc out (o, M)] at hown3
              have hown4 : w3.ownsRow w.heap.size 69 2 v' (out ++ [(o, M)]).length (cutCells (out ++ [(o, M)])) := by simpa using hown3
              go_wp2_with fail
              go_ret
              exact ⟨_, rfl, by rw [← HX.out]; exact cutRow_of_owns hown4, (by rw [← HX.out]; simp; omega), y3⟩
          · have c2b : (A == N2) = false := by simpa using c2
            rw [if_neg (fun h => h.elim c1 c2)] at hst
            have HX : Hid (cutsF S te b f' X op out = R) := hst
            clear hst
            go_wp2_with (first
              | (go_at_call 24; with_reducible refine cI.mono ?_; rintro e w1 ⟨rfl, hw⟩; rw [hw]; clear hw)
              | (go_at_call 50; with_reducible refine (cT _).mono ?_; rintro e w2 ⟨rfl, h2⟩; have y := hbr.trans (h2.mono hbr.size); have o2 := owns_below hown h2))
            go_roundg (te + 1 - X)
            case measure => omega
            case rel => exact ⟨f', X, op, out, rfl, rfl, hXt, by omega, by omega, (fun o ho => by have := hop o ho; omega), by omega, o2, y, HX.out⟩
    · have hae : a = te := by omega
      subst hae
      have hst := Hf.out
      have hend : cutsF S a b f a op out = endCut op out a := by
        cases f with
        | zero => omega
        | succ f => rw [cutsF, if_neg (Nat.lt_irrefl a)]
      rw [hend] at hst
      clear Hf hend
      cases op with
      | none =>
        have HX : Hid (out = R) := hst
        have hol2 : out.length ≤ a := by simpa using hol
        clear hst
        go_wp2_with fail
        go_ret
        exact ⟨_, rfl, by rw [← HX.out]; exact cutRow_of_owns hown, by rw [← HX.out]; exact hol2, hbr⟩
      | some o =>
        have HX : Hid (out ++ [(o, a)] = R) := hst
        have hol2 : out.length + 1 ≤ a := by simpa using hol
        have hoz : (0 : Int) ≤ (o : Int) := by omega
        have hopI : opI (some o) = (o : Int) := rfl
        clear hst
        go_wp2_with (at_builtin; go_must (refine wpList_app2 rfl _ _ 66 rfl 69 Tryz.underlying66 cut_info rfl w.heap.size _ _ _ _ rfl hown (.int .i64 (o : Int)) (.int .i64 (a : Int)) rfl rfl rfl ?c3 (by decide) ?c5 ?_))
        case c3 => omega
        case c5 => exact hbr.size
        intro v' w3 hown3 hg3 hv3
        have y3 := below_app2 hbr hbr.size hown hg3
        rw [cutCells_snoc out (o, a)] at hown3
        have hown4 : w3.ownsRow w.heap.size 69 2 v' (out ++ [(o, a)]).length (cutCells (out ++ [(o, a)])) := by simpa using hown3
        go_wp2_with fail
        go_ret
        exact ⟨_, rfl, by rw [← HX.out]; exact cutRow_of_owns hown4, by rw [← HX.out]; simpa using hol2, y3⟩
end Go.Proofs.YtmjfhhladicacaaGreatDoor
