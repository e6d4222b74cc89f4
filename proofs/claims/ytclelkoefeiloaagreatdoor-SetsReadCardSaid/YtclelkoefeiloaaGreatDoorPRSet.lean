/- Plain laws: how the reference writes a set is how the set is written. No program here. -/
import Derived.Test.YtclelkoefeiloaaGreatDoorPSeqL
import Derived.Test.YtclelkoefeiloaaGreatDoorPRep
import Derived.Lib.Replace
namespace Go.Proofs.YtclelkoefeiloaaGreatDoor

/-- a number between marks -/
def markN (n : Int) : List UInt8 := [60] ++ textN n ++ [62]
def markR (r : Rg) : List UInt8 := if r.1 = r.2 then markN r.1 else markN r.1 ++ ([58] ++ markN r.2)
def markS (l : List Rg) : List UInt8 := Lib.join (l.map markR) [44]
def markP : List (UInt8 × List UInt8) := [(60, []), (62, [])]
theorem repF_app (ps : List (UInt8 × List UInt8)) : ∀ a b : List UInt8, repF ps (a ++ b) = repF ps a ++ repF ps b
  | [], b => rfl
  | c :: a, b => by rw [List.cons_append, repF_cons, repF_cons, repF_app ps a b, List.append_assoc]
theorem repF_id : ∀ a : List UInt8, (∀ c ∈ a, c ≠ 60 ∧ c ≠ 62) → repF markP a = a
  | [], _ => rfl
  | c :: a, h => by
    have ih := repF_id a fun x hx => h x (List.mem_cons_of_mem _ hx)
    obtain ⟨h1, h2⟩ := h c (List.mem_cons_self ..)
    rw [repF_cons, ih, show markP.lookup c = none by unfold markP; rw [List.lookup_cons, show (c == 60) = false by simpa using h1]; simp only; rw [List.lookup_cons, show (c == 62) = false by simpa using h2]; rfl]
    rfl
theorem textN_plain {n : Int} (h : okN n = true) : ∀ c ∈ textN n, c ≠ 60 ∧ c ≠ 62 := by
  unfold okN at h
  rw [Bool.and_eq_true, decide_eq_true_eq, decide_eq_true_eq] at h
  unfold textN
  split
  · intro c hc
    rw [List.mem_singleton] at hc
    subst hc
    decide
  · obtain ⟨m, rfl⟩ : ∃ m : Nat, n = (m : Int) := ⟨n.toNat, by omega⟩
    rw [itoa_nat]
    intro c hc
    have := dec_digits m c hc
    constructor <;> (rintro rfl; revert this; decide)
theorem rep_markN {n : Int} (h : okN n = true) : repF markP (markN n) = textN n := by
  unfold markN
  rw [repF_app, repF_app, repF_id _ (textN_plain h)]
  have e1 : repF markP [60] = [] := rfl
  have e2 : repF markP [62] = [] := rfl
  rw [e1, e2]
  simp
theorem rep_markR {r : Rg} (h1 : okN r.1 = true) (h2 : okN r.2 = true) : repF markP (markR r) = textR r := by
  unfold markR textR
  by_cases h : r.1 = r.2
  · rw [if_pos h, if_pos h.symm, rep_markN h1]
  · rw [if_neg h, if_neg (fun e => h e.symm), repF_app, repF_app, rep_markN h1, rep_markN h2]
    rfl
theorem join_cons2 (c : UInt8) (x y : List UInt8) (r : List (List UInt8)) : Lib.join (x :: y :: r) [c] = x ++ [c] ++ Lib.join (y :: r) [c] := by simp [Lib.join, List.intercalate]
theorem rep_markS : ∀ l : List Rg, (∀ r ∈ l, okN r.1 = true ∧ okN r.2 = true) → repF markP (markS l) = printS l
  | [], _ => rfl
  | [r], h => by
    obtain ⟨h1, h2⟩ := h r (by simp)
    unfold markS printS
    rw [List.map_cons, List.map_nil, List.map_cons, List.map_nil, Lib.join_one, Lib.join_one, rep_markR h1 h2]
  | r :: q :: l, h => by
    obtain ⟨h1, h2⟩ := h r (by simp)
    have ih := rep_markS (q :: l) fun x hx => h x (List.mem_cons_of_mem _ hx)
    unfold markS printS at ih ⊢
    simp only [List.map_cons] at ih ⊢
    rw [join_cons2, join_cons2, repF_app, repF_app, rep_markR h1 h2, ih]
    rfl
theorem join_snoc (c : UInt8) : ∀ (l : List (List UInt8)) (x : List UInt8), l ≠ [] → Lib.join (l ++ [x]) [c] = Lib.join l [c] ++ [c] ++ x
  | [], x, h => absurd rfl h
  | [y], x, _ => by rw [Lib.join_one]; show Lib.join [y, x] [c] = _; rw [join_cons2, Lib.join_one]
  | y :: z :: r, x, _ => by
    have ih := join_snoc c (z :: r) x (by simp)
    rw [List.cons_append, List.cons_append, join_cons2, join_cons2]
    rw [List.cons_append] at ih
    rw [ih]
    simp
theorem markN_len {n : Int} (h : okN n = true) : (markN n).length ≤ 12 := by
  have := textN_len h
  unfold markN
  simp only [List.length_append, List.length_cons, List.length_nil]
  omega
theorem markR_len {r : Rg} (h1 : okN r.1 = true) (h2 : okN r.2 = true) : (markR r).length ≤ 25 := by
  have a := markN_len h1
  have b := markN_len h2
  unfold markR
  split
  · omega
  · simp only [List.length_append, List.length_cons, List.length_nil]; omega
theorem markS_len {l : List Rg} (hl : l.length ≤ 20) (h : ∀ r ∈ l, okN r.1 = true ∧ okN r.2 = true) : (markS l).length ≤ 520 := by
  have := join_len_le 44 25 (l.map markR) (by
    intro t ht
    obtain ⟨r, hr, rfl⟩ := List.mem_map.1 ht
    exact markR_len (h r hr).1 (h r hr).2)
  rw [List.length_map] at this
  unfold markS
  omega
/-- what a nought is written as -/
theorem mark_text {n : Int} (h : okN n = true) : Lib.replaceAll ([60] ++ Lib.itoa n ++ [62]) [60, 48, 62] [60, 42, 62] = markN n := by
  unfold okN at h
  rw [Bool.and_eq_true, decide_eq_true_eq, decide_eq_true_eq] at h
  by_cases h0 : n = 0
  · subst h0; kernel_rfl
  · obtain ⟨m, rfl⟩ : ∃ m : Nat, n = (m : Int) := ⟨n.toNat, by omega⟩
    unfold markN textN
    rw [if_neg h0, itoa_nat]
    have hdig := dec_digits m
    have hne : Lib.decDigits m ≠ [48] := by
      intro e
      have := atoi_itoa m (by omega)
      rw [e, show Lib.atoiAll [48] = .ok 0 by kernel_rfl] at this
      injection this with this
      omega
    generalize Lib.decDigits m = D at hdig hne
    have hidx : Lib.index ([60] ++ D ++ [62]) [60, 48, 62] = -1 := by
      rcases Lib.index_spec ([60] ++ D ++ [62]) [60, 48, 62] with ⟨h1, _⟩ | ⟨i, h1, _, h3, _⟩
      · exact h1
      · exfalso
        unfold Lib.occAt at h3
        rw [List.isPrefixOf_iff_prefix] at h3
        obtain ⟨r, hr⟩ := h3
        have g : ∀ j : Nat, ([60] ++ D ++ [62])[i + j]? = ([60, 48, 62] ++ r)[j]? := fun j => by rw [← List.getElem?_drop, ← hr]
        have g0 : ([60] ++ D ++ [62])[i]? = some 60 := g 0
        have g1 : ([60] ++ D ++ [62])[i + 1]? = some 48 := g 1
        have g2 : ([60] ++ D ++ [62])[i + 2]? = some 62 := g 2
        have hi : i = 0 := by
          rcases Nat.eq_zero_or_pos i with h | h
          · exact h
          · obtain ⟨j, rfl⟩ : ∃ j, i = j + 1 := ⟨i - 1, by omega⟩
            have g0' : (D ++ [62])[j]? = some 60 := g0
            rcases Nat.lt_or_ge j D.length with hj | hj
            · rw [List.getElem?_append_left hj] at g0'
              exact absurd (hdig 60 (List.mem_of_getElem? g0')) (by decide)
            · rw [List.getElem?_append_right hj] at g0'
              have hz : j - D.length = 0 := by
                have := (List.getElem?_eq_some_iff.1 g0').1
                simp at this; omega
              rw [hz] at g0'
              simp at g0'
        subst hi
        have g1' : (D ++ [62])[0]? = some 48 := g1
        have g2' : (D ++ [62])[1]? = some 62 := g2
        match D, hdig, hne, g1', g2' with
        | [], _, _, g1', _ => simp at g1'
        | [d], _, hne, g1', _ => simp at g1'; subst g1'; exact hne rfl
        | d :: e :: D, hdig, _, _, g2' =>
          simp at g2'
          subst g2'
          exact absurd (hdig 62 (by simp)) (by decide)
    unfold Lib.replaceAll Lib.replace Lib.replaceNum
    rw [if_neg (by decide), if_pos (Or.inl (by decide))]
    have hc : Lib.count ([60] ++ D ++ [62]) [60, 48, 62] = 0 := by
      unfold Lib.count
      rw [Lib.countFrom, if_pos (by rw [hidx]; rfl)]
    rw [hc]
    rfl
end Go.Proofs.YtclelkoefeiloaaGreatDoor
