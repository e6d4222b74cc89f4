/- Plain laws for heads, third part: what a head is written as is that head again. No program in sight; no condition beyond those each names. -/
import Derived.Test.YtmjfhhladicacaaGreatDoorPHead2
namespace Go.Proofs.YtmjfhhladicacaaGreatDoor

def lineF (f : Fld) : List UInt8 := f.1 ++ [58, 32] ++ f.2
def printF (l : List Fld) : List UInt8 := (l.flatMap fun f => lineF f ++ [13, 10]) ++ [13, 10]
def Ends (l : List UInt8) : Prop := (∀ c, l.head? = some c → ([32, 9] : List UInt8).contains c = false) ∧ (∀ c, l.getLast? = some c → ([32, 9] : List UInt8).contains c = false)
theorem ends_trim {l : List UInt8} (h : Ends l) : trimB l = l := trimS_id l _ h.1 h.2
theorem dropWhile_head {p : UInt8 → Bool} : ∀ (l : List UInt8) (c : UInt8), (l.dropWhile p).head? = some c → p c = false
  | [], c, h => by simp at h
  | x :: l, c, h => by
    rw [List.dropWhile_cons] at h
    by_cases hx : p x = true
    · rw [if_pos hx] at h; exact dropWhile_head l c h
    · rw [if_neg hx] at h; simp at h; subst h; simpa using hx
theorem dropWhile_sub {p : UInt8 → Bool} : ∀ (l : List UInt8), ∃ a, l = a ++ l.dropWhile p
  | [] => ⟨[], rfl⟩
  | x :: l => by
    rw [List.dropWhile_cons]
    by_cases hx : p x = true
    · obtain ⟨a, ha⟩ := dropWhile_sub (p := p) l
      rw [if_pos hx]; exact ⟨x :: a, by rw [List.cons_append, ← ha]⟩
    · rw [if_neg hx]; exact ⟨[], rfl⟩
theorem trimS_ends (l cs : List UInt8) : (∀ c, (Lib.trimS l cs).head? = some c → cs.contains c = false) ∧ (∀ c, (Lib.trimS l cs).getLast? = some c → cs.contains c = false) := by
  unfold Lib.trimS Lib.trimLeftS
  refine ⟨fun c hc => dropWhile_head _ c hc, fun c hc => ?_⟩
  obtain ⟨a, ha⟩ := dropWhile_sub (p := (cs.contains ·)) (Lib.trimRightS l cs)
  have h2 : (Lib.trimRightS l cs).getLast? = some c := by
    rw [ha, List.getLast?_append, hc]; rfl
  unfold Lib.trimRightS at h2
  rw [List.getLast?_reverse] at h2
  exact dropWhile_head (p := (cs.contains ·)) _ c h2
theorem ends_trimB (l : List UInt8) : Ends (trimB l) := trimS_ends l _
theorem trimS_mem {l cs : List UInt8} {x : UInt8} (h : x ∈ Lib.trimS l cs) : x ∈ l := by
  unfold Lib.trimS Lib.trimLeftS at h
  obtain ⟨a, ha⟩ := dropWhile_sub (p := (cs.contains ·)) (Lib.trimRightS l cs)
  have h2 : x ∈ Lib.trimRightS l cs := by rw [ha]; exact List.mem_append_right _ h
  unfold Lib.trimRightS at h2
  obtain ⟨b, hb⟩ := dropWhile_sub (p := (cs.contains ·)) l.reverse
  have h3 : x ∈ l.reverse := by rw [hb]; exact List.mem_append_right _ (List.mem_reverse.1 h2)
  exact List.mem_reverse.1 h3
theorem any_none {v cs : List UInt8} (h : ∀ c ∈ v, cs.contains c = false) : Lib.containsAny v cs = false := by
  unfold Lib.containsAny
  have : Lib.indexAny v cs = -1 := Lib.indexAny_none (fun j b _ hb => h b (List.mem_of_getElem? hb))
  rw [this]; rfl
theorem bad_of {v : List UInt8} (h : ∀ c ∈ v, ([13, 10, 0] : List UInt8).contains c = false) : badL v = false := any_none h
theorem of_bad {v : List UInt8} (h : badL v = false) : ∀ c ∈ v, ([13, 10, 0] : List UInt8).contains c = false := noAny h

/-- a field that a head may have -/
def OkF (f : Fld) : Prop := nameL f.1 = true ∧ badL f.2 = false ∧ Ends f.2
theorem grow_ok {f : Fld} {l : List UInt8} (hf : OkF f) (hl : badL l = false) : OkF (f.1, trimW (f.2 ++ [32] ++ trimB l)) := by
  refine ⟨hf.1, ?_, ?_⟩
  · refine bad_of ?_
    intro c hc
    have hc := trimS_mem hc
    rw [List.append_assoc, List.mem_append, List.mem_append] at hc
    rcases hc with hc | hc | hc
    · exact of_bad hf.2.1 c hc
    · simp at hc; subst hc; decide
    · exact of_bad hl c (trimS_mem hc)
  · have hx := hf.2.2
    have hy := ends_trimB l
    generalize trimB l = y at hy
    generalize f.2 = x at hx
    have e32 : ∀ c : UInt8, ([32, 9] : List UInt8).contains c = false → ([32] : List UInt8).contains c = false := by
      intro c hc
      simp only [List.contains_cons, List.contains_nil, Bool.or_false, Bool.or_eq_false_iff] at hc ⊢
      exact hc.1
    show Ends (Lib.trimS (x ++ [32] ++ y) [32])
    cases x with
    | nil =>
      rw [List.nil_append, List.singleton_append, trimS_cons _ _ _ (by decide), trimS_id y _ (fun c hc => e32 c (hy.1 c hc)) (fun c hc => e32 c (hy.2 c hc))]
      exact hy
    | cons a r =>
      cases y with
      | nil =>
        rw [List.append_nil, trimS_snoc _ _ _ (by decide), trimS_id _ _ (fun c hc => e32 c (hx.1 c hc)) (fun c hc => e32 c (hx.2 c hc))]
        exact hx
      | cons b t =>
        have h1 : ((a :: r) ++ [32] ++ (b :: t)).head? = (a :: r).head? := rfl
        have h2 : ((a :: r) ++ [32] ++ (b :: t)).getLast? = (b :: t).getLast? := by
          rw [List.getLast?_append]
          cases h : (b :: t).getLast? with
          | none => simp at h
          | some z => rfl
        rw [trimS_id _ _ (fun c hc => e32 c (hx.1 c (h1 ▸ hc))) (fun c hc => e32 c (hy.2 c (h2 ▸ hc)))]
        exact ⟨fun c hc => hx.1 c (h1 ▸ hc), fun c hc => hy.2 c (h2 ▸ hc)⟩
theorem cut_mem {l : List UInt8} {x : UInt8} (h : x ∈ (Lib.cut l [58]).2.1) : x ∈ l := by
  unfold Lib.cut at h
  split at h
  · exact List.mem_of_mem_drop h
  · simp at h
theorem fieldsF_ok : ∀ (P : List (List UInt8)) (i : Nat) (out l : List Fld), fieldsF i P out = .inr l → (∀ f ∈ out, OkF f) → out.length ≤ 40 → (∀ f ∈ l, OkF f) ∧ l.length ≤ 40
  | [], i, out, l, h, ho, h40 => by
    cases h; exact ⟨ho, h40⟩
  | p :: P, i, out, l, h, ho, h40 => by
    unfold fieldsF at h
    split at h
    · exact fieldsF_ok P _ _ _ h ho h40
    · split at h
      · cases h
      · rename_i hbad
        have hbad : badL p = false := by simpa using hbad
        split at h
        · split at h
          · cases h
          · rename_i hne
            obtain ⟨o, f, rfl⟩ : ∃ o f, out = o ++ [f] := by
              rcases List.eq_nil_or_concat out with h' | ⟨o, f, h'⟩
              · exact absurd h' hne
              · exact ⟨o, f, by rw [h', List.concat_eq_append]⟩
            have hg : lastGrow (o ++ [f]) p = o ++ [(f.1, trimW (f.2 ++ [32] ++ trimB p))] := by
              unfold lastGrow; simp
            rw [hg] at h
            refine fieldsF_ok P _ _ _ h ?_ (by simpa using h40)
            intro q hq
            rw [List.mem_append] at hq
            rcases hq with hq | hq
            · exact ho q (List.mem_append_left _ hq)
            · simp only [List.mem_singleton] at hq
              rw [hq]
              exact grow_ok (ho f (by simp)) hbad
        · split at h
          · cases h
          · rename_i hcn
            split at h
            · cases h
            · rename_i hlen
              refine fieldsF_ok P _ _ _ h ?_ (by simp; omega)
              intro q hq
              rw [List.mem_append] at hq
              rcases hq with hq | hq
              · exact ho q hq
              · simp only [List.mem_singleton] at hq
                rw [hq]
                simp only [Bool.or_eq_true, Bool.not_eq_true', not_or, Bool.not_eq_false] at hcn
                exact ⟨hcn.2, bad_of (fun c hc => of_bad hbad c (cut_mem (trimS_mem hc))), ends_trimB _⟩
theorem fieldsL_ok {s : List UInt8} {l : List Fld} (h : fieldsL s = .inr l) : (∀ f ∈ l, OkF f) ∧ l.length ≤ 40 :=
  fieldsF_ok _ 0 [] l h (by intro f hf; simp at hf) (by simp)

theorem name_ne {n : List UInt8} (h : nameL n = true) : n ≠ [] := by
  rintro rfl; cases h
theorem name_byte {n : List UInt8} (h : nameL n = true) : ∀ c ∈ n, 33 ≤ c.toNat ∧ c.toNat ≤ 126 ∧ c ≠ 58 := by
  intro c hc
  unfold nameL at h
  simp only [Bool.and_eq_true, List.all_eq_true] at h
  have := h.1 c hc
  unfold nameC at this
  simp only [Bool.and_eq_true, decide_eq_true_eq, bne_iff_ne] at this
  exact ⟨this.1.1, this.1.2, this.2⟩
theorem line_no {f : Fld} (h : OkF f) : (13 : UInt8) ∉ lineF f := by
  unfold lineF
  rw [List.append_assoc, List.mem_append, List.mem_append]
  rintro (hc | hc | hc)
  · have := name_byte h.1 _ hc; revert this; decide
  · simp at hc
  · have := of_bad h.2.1 _ hc; revert this; decide
theorem line_bad {f : Fld} (h : OkF f) : badL (lineF f) = false := by
  refine bad_of ?_
  intro c hc
  unfold lineF at hc
  rw [List.append_assoc, List.mem_append, List.mem_append] at hc
  rcases hc with hc | hc | hc
  · have hb := name_byte h.1 _ hc
    simp only [List.contains_cons, List.contains_nil, Bool.or_false, Bool.or_eq_false_iff, beq_eq_false_iff_ne]
    refine ⟨?_, ?_, ?_⟩ <;> (rintro rfl; revert hb; decide)
  · simp at hc
    rcases hc with rfl | rfl <;> decide
  · exact of_bad h.2.1 c hc

theorem index_crlf : ∀ (a r : List UInt8), (13 : UInt8) ∉ a → Lib.index (a ++ 13 :: 10 :: r) [13, 10] = a.length
  | [], r, _ => by simp [Lib.index, List.isPrefixOf]
  | x :: a, r, h => by
    have h1 : (13 : UInt8) ≠ x := fun e => h (by simp [e])
    have h2 := index_crlf a r (fun e => h (by simp [e]))
    have h3 : List.isPrefixOf [13, 10] (x :: (a ++ 13 :: 10 :: r)) = false := by
      simp [List.isPrefixOf, h1]
    rw [List.cons_append, Lib.index, h3, h2, if_neg (by decide), if_neg (by simp)]
    simp
theorem split_line (a r : List UInt8) (h : (13 : UInt8) ∉ a) : Lib.split (a ++ 13 :: 10 :: r) [13, 10] = a :: Lib.split r [13, 10] := by
  rw [split_hit (i := a.length) (by simp) (index_crlf a r h)]
  simp
theorem split_print : ∀ (l : List Fld), (∀ f ∈ l, OkF f) → Lib.split (printF l) [13, 10] = l.map lineF ++ [[], []]
  | [], _ => by decide +kernel
  | f :: l, h => by
    have e : printF (f :: l) = lineF f ++ 13 :: 10 :: printF l := by simp [printF]
    rw [e, split_line _ _ (line_no (h f (by simp))), split_print l (fun g hg => h g (by simp [hg]))]
    rfl
theorem index4_hit : ∀ (a r : List UInt8), (13 : UInt8) ∉ a → Lib.index (a ++ 13 :: 10 :: 13 :: 10 :: r) [13, 10, 13, 10] = a.length
  | [], r, _ => by simp [Lib.index, List.isPrefixOf]
  | x :: a, r, h => by
    have h1 : (13 : UInt8) ≠ x := fun e => h (by simp [e])
    have h2 := index4_hit a r (fun e => h (by simp [e]))
    have h3 : List.isPrefixOf [13, 10, 13, 10] (x :: (a ++ 13 :: 10 :: 13 :: 10 :: r)) = false := by
      simp [List.isPrefixOf, h1]
    rw [List.cons_append, Lib.index, h3, h2, if_neg (by decide), if_neg (by simp)]
    simp
theorem index4_skip : ∀ (a r : List UInt8) (j : Nat), (13 : UInt8) ∉ a → r.head? ≠ some 13 → Lib.index r [13, 10, 13, 10] = j → Lib.index (a ++ 13 :: 10 :: r) [13, 10, 13, 10] = (a.length + 2 + j : Nat)
  | [], r, j, _, hr, hj => by
    have h3 : List.isPrefixOf [13, 10, 13, 10] (13 :: 10 :: r) = false := by
      cases r with
      | nil => rfl
      | cons x r =>
        have : (13 : UInt8) ≠ x := fun e => hr (by simp [e])
        simp [List.isPrefixOf, this]
    have h4 : List.isPrefixOf [13, 10, 13, 10] (10 :: r) = false := by simp [List.isPrefixOf]
    have h5 : Lib.index (10 :: r) [13, 10, 13, 10] = (1 + j : Nat) := by
      rw [Lib.index, h4, if_neg (by decide), hj, if_neg (by simp)]; omega
    rw [List.nil_append, Lib.index, h3, if_neg (by decide), h5, if_neg (by simp; omega)]
    simp only [List.length_nil]
    omega
  | x :: a, r, j, h, hr, hj => by
    have h1 : (13 : UInt8) ≠ x := fun e => h (by simp [e])
    have h2 := index4_skip a r j (fun e => h (by simp [e])) hr hj
    have h3 : List.isPrefixOf [13, 10, 13, 10] (x :: (a ++ 13 :: 10 :: r)) = false := by
      simp [List.isPrefixOf, h1]
    rw [List.cons_append, Lib.index, h3, h2, if_neg (by decide), if_neg (by simp; omega)]
    simp only [List.length_cons]; omega
theorem print_head {f : Fld} {l : List Fld} (h : OkF f) (b : List UInt8) : ∃ x t, printF (f :: l) ++ b = x :: t ∧ x ≠ 13 := by
  obtain ⟨n, v⟩ := f
  cases n with
  | nil => exact absurd rfl (name_ne h.1)
  | cons x t =>
    refine ⟨x, t ++ ([58, 32] ++ v ++ [13, 10] ++ (printF l ++ b)), by simp [printF, lineF], ?_⟩
    have := name_byte h.1 x (by simp)
    rintro rfl
    revert this; decide
theorem index_print (b : List UInt8) : ∀ (l : List Fld) (f : Fld), (∀ g ∈ f :: l, OkF g) → Lib.index (printF (f :: l) ++ b) [13, 10, 13, 10] = ((printF (f :: l)).length - 4 : Nat)
  | [], f, h => by
    have e : printF [f] ++ b = lineF f ++ 13 :: 10 :: 13 :: 10 :: b := by simp [printF]
    have e2 : (printF [f]).length = (lineF f).length + 4 := by simp [printF]
    rw [e, index4_hit _ _ (line_no (h f (by simp))), e2]
    simp
  | g :: l, f, h => by
    have e : printF (f :: g :: l) ++ b = lineF f ++ 13 :: 10 :: (printF (g :: l) ++ b) := by simp [printF]
    have e2 : (printF (f :: g :: l)).length = (lineF f).length + 2 + (printF (g :: l)).length := by simp [printF]; omega
    have e3 : 4 ≤ (printF (g :: l)).length := by simp [printF]; omega
    have ih := index_print b l g (fun q hq => h q (by simp [hq]))
    rw [e, index4_skip _ _ _ (line_no (h f (by simp))) ?_ ih, e2]
    · congr 1; omega
    · obtain ⟨x, t, hx, hne⟩ := print_head (l := l) (h g (by simp)) b
      rw [hx]; simpa using hne
theorem splitHd_print (l : List Fld) (b : List UInt8) (h : ∀ f ∈ l, OkF f) : splitHd (printF l ++ b) = (printF l, b) := by
  cases l with
  | nil => simp [splitHd, printF, Lib.hasPrefix, List.isPrefixOf]
  | cons f l =>
    obtain ⟨x, t, hx, hne⟩ := print_head (l := l) (h f (by simp)) b
    have hp : Lib.hasPrefix (printF (f :: l) ++ b) [13, 10] = false := by
      rw [hx]
      have : (13 : UInt8) ≠ x := fun e => hne e.symm
      simp [Lib.hasPrefix, List.isPrefixOf, this]
    have e3 : 4 ≤ (printF (f :: l)).length := by simp [printF]; omega
    unfold splitHd
    rw [hp, if_neg (by decide), index_print b l f h, if_neg (by omega), Int.toNat_natCast, Nat.sub_add_cancel e3]
    simp
theorem fields_print (l : List Fld) : ∀ (i : Nat) (out : List Fld), (∀ f ∈ l, OkF f) → out.length + l.length ≤ 40 → fieldsF i (l.map lineF ++ [[], []]) out = .inr (out ++ l) := by
  induction l with
  | nil => intro i out _ _; simp [fieldsF]
  | cons f l ih =>
    intro i out h h40
    have hf := h f (by simp)
    obtain ⟨n, v⟩ := f
    have hne : lineF (n, v) ≠ [] := by simp [lineF]
    have hb := line_bad hf
    have hbl : blankC ((lineF (n, v)).headD 0) = false := by
      cases n with
      | nil => exact absurd rfl (name_ne hf.1)
      | cons x t =>
        have := name_byte hf.1 x (by simp)
        show blankC x = false
        unfold blankC
        simp only [Bool.or_eq_false_iff, beq_eq_false_iff_ne]
        refine ⟨?_, ?_⟩ <;> (rintro rfl; revert this; decide)
    have hc : Lib.cut (lineF (n, v)) [58] = (n, 32 :: v, true) := by
      have e : lineF (n, v) = n ++ 58 :: (32 :: v) := by simp [lineF]
      rw [e]
      exact cut_at 58 n _ (fun hm => (name_byte hf.1 58 hm).2.2 rfl)
    have ht : trimB (32 :: v) = v := by
      unfold trimB
      rw [trimS_cons _ _ _ (by decide)]
      exact ends_trim hf.2.2
    simp only [List.length_cons] at h40
    rw [List.map_cons, List.cons_append, fieldsF, if_neg hne, hb, if_neg (by decide), hbl, if_neg (by decide), hc]
    simp only [hf.1, Bool.not_true, Bool.or_self, Bool.false_eq_true, if_false]
    rw [if_neg (by omega), ht, ih _ _ (fun g hg => h g (by simp [hg])) (by simp; omega)]
    simp
theorem fields_again {l : List Fld} (b : List UInt8) (h : ∀ f ∈ l, OkF f) (h40 : l.length ≤ 40) : fieldsL (printF l ++ b) = .inr l := by
  unfold fieldsL
  rw [splitHd_print l b h, split_print l h, fields_print l 0 [] h (by simpa using h40)]
  rfl
theorem splitHd_cat (s : List UInt8) : (splitHd s).1 ++ (splitHd s).2 = s := by
  unfold splitHd
  split
  · simp
  · split
    · simp
    · simp
/-- a name that is there is found, and the first one says what the first field says -/
theorem get_there {l : List Fld} {k : Nat} {f : Fld} {m : List UInt8} (hf : l[k]? = some f) (hm : smallL m = smallL f.1) : ∃ x, getF l m = some x ∧ (k = 0 → x = f.2) := by
  unfold getF
  have hmem : f ∈ l := List.mem_of_getElem? hf
  have hs : (l.find? fun g => smallL g.1 == smallL m).isSome = true := by
    rw [List.find?_isSome]
    exact ⟨f, hmem, by simp [hm]⟩
  obtain ⟨g, hg⟩ := Option.isSome_iff_exists.1 hs
  refine ⟨g.2, by rw [hg]; rfl, ?_⟩
  rintro rfl
  cases l with
  | nil => simp at hf
  | cons q r =>
    simp at hf
    subst hf
    rw [List.find?_cons, show (smallL q.1 == smallL m) = true by simp [hm]] at hg
    cases hg; rfl
end Go.Proofs.YtmjfhhladicacaaGreatDoor
