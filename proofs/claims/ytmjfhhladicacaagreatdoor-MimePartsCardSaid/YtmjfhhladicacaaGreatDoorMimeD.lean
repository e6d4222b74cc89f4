/- What is needed for the walks over what is done with parts: each part is small, and they lie only so deep. No condition. -/
import Derived.Test.YtmjfhhladicacaaGreatDoorMimeC
import Derived.Lib.CountLaws
namespace Go.Proofs.YtmjfhhladicacaaGreatDoor
open Go.RowKit Go.Shelf

/-- a part, and those in it, so deep: numbers and names are small -/
def Fine : Nat → PT → Prop
  | 0, _ => False
  | g + 1, p => p.fr ≤ p.to ∧ p.to ≤ 9000 ∧ p.ln ≤ 9001 ∧ p.ty.length ≤ 60000 ∧ p.ps.length ≤ 30 ∧ ∀ q ∈ p.ps, Fine g q

theorem kind_len1 (H : List UInt8) : (kindF H).1.length ≤ 5 * H.length + 20 := by
  have hK : kindF H = match fieldsL H with | .inl _ => (tpS, []) | .inr l => kindOf l := rfl
  cases hR : fieldsL H with
  | inl x => rw [hR] at hK; rw [hK]; show tpS.length ≤ _; have : tpS.length = 10 := rfl; omega
  | inr l =>
    rw [hR] at hK
    have hK2 : kindF H = match getF l ctS with | none => (tpS, []) | some v => (smallL (trimB (Lib.cut v [59]).1), (paramL v bnS).getD []) := hK
    cases hv : getF l ctS with
    | none => rw [hv] at hK2; rw [hK2]; show tpS.length ≤ _; have : tpS.length = 10 := rfl; omega
    | some v =>
      have hl := getF_len hR hv
      rw [hv] at hK2
      have hK3 : kindF H = (smallL (trimB (Lib.cut v [59]).1), (paramL v bnS).getD []) := hK2
      rw [hK3]
      show (smallL (trimB (Lib.cut v [59]).1)).length ≤ _
      have h2 : (trimB (Lib.cut v [59]).1).length ≤ _ := trimS_len (Lib.cut v [59]).1 [32, 9]
      have h3 := (cut_len v [59]).1
      unfold smallL
      rw [List.length_map]
      omega

theorem parts_fine {s : List UInt8} {g : Nat} (hf : ∀ n fr te p m, fr ≤ te → te ≤ s.length → n ≤ 30 → partF s g n fr te = (some p, m) → Fine g p) :
    ∀ (l : List (Nat × Nat)) (n : Nat) (out ps : List PT) (m a te : Nat), Rising l a te → te ≤ s.length → n ≤ 30 → partsF (partF s g) l n out = (some ps, m) → (∀ q ∈ out, Fine g q) → (∀ q ∈ ps, Fine g q) ∧ ps.length + n ≤ out.length + m ∧ m ≤ 30
  | [], n, out, ps, m, a, te, _, _, hn, h, ho => by
    rw [partsF] at h
    cases h
    exact ⟨ho, Nat.le_refl _, hn⟩
  | c :: r, n, out, ps, m, a, te, hr, hs, hn, h, ho => by
    have hto := rising_le r c.2 te hr.2.2
    have hg := part_good s g n c.1 c.2 hr.2.1 (by omega)
    rw [partsF] at h
    cases hfr : partF s g n c.1 c.2 with
    | mk o n' =>
      rw [hfr] at hg h
      cases o with
      | none => cases h
      | some q =>
        have hn' : n' ≤ 30 := hg.2.1 hn (by simp)
        have hlt : n < n' := hg.1
        have hq := hf n c.1 c.2 q n' hr.2.1 (by omega) hn hfr
        have ih := parts_fine hf r n' (out ++ [q]) ps m c.2 te hr.2.2 hs hn' h (fun x hx => by
          rcases List.mem_append.1 hx with hx | hx
          · exact ho x hx
          · rw [List.mem_singleton] at hx; rw [hx]; exact hq)
        refine ⟨ih.1, ?_, ih.2.2⟩
        have := ih.2.1
        rw [List.length_append, List.length_singleton] at this
        omega
theorem part_fine (s : List UInt8) (hS : s.length ≤ 9000) : ∀ (g n fr te : Nat) (p : PT) (m : Nat), fr ≤ te → te ≤ s.length → n ≤ 30 → partF s g n fr te = (some p, m) → Fine g p
  | 0, n, fr, te, p, m, _, _, _, h => by rw [partF] at h; cases h
  | g + 1, n, fr, te, p, m, hle, hs, hn, h => by
    have hlen := splitHd_take ((s.drop fr).take (te - fr))
    have hcat := splitHd_cat ((s.drop fr).take (te - fr))
    have htl : ((s.drop fr).take (te - fr)).length = te - fr := by rw [List.length_take, List.length_drop]; omega
    unfold partF at h
    by_cases h30 : 30 < n + 1
    · rw [if_pos h30] at h; cases h
    · rw [if_neg h30] at h
      simp only at h
      generalize splitHd ((s.drop fr).take (te - fr)) = H at h hlen hcat
      have hbl : H.2.length ≤ te - fr := by have := congrArg List.length hcat; rw [List.length_append] at this; omega
      have hln : Lib.count H.2 [10] ≤ 9001 := by have := Lib.count_le H.2 [10]; omega
      have hty : (kindF H.1).1.length ≤ 60000 := by have := kind_len1 H.1; omega
      by_cases hm : multi (kindF H.1) = true
      · rw [if_pos hm] at h
        have hx : fr + H.1.length ≤ te := by omega
        have hr := cuts_rise s te (kindF H.1).2 (fr + H.1.length) (te + 1) (fr + H.1.length) none [] (fr + H.1.length) (Nat.le_refl _) (Nat.le_refl _) hx (fun o ho => by cases ho)
        cases hpp : partsF (partF s g) (cutsF s te (kindF H.1).2 (te + 1) (fr + H.1.length) none []) (n + 1) [] with
        | mk o n' =>
          rw [hpp] at h
          cases o with
          | none => cases h
          | some ps =>
            cases h
            have k := parts_fine (part_fine s hS g) _ (n + 1) [] ps m _ te hr hs (by omega) hpp (fun q hq => by simp at hq)
            refine ⟨hx, Nat.le_trans hs hS, hln, hty, ?_, k.1⟩
            show ps.length ≤ 30
            have := k.2.1
            have := k.2.2
            simp at *
            omega
      · rw [if_neg hm] at h
        cases h
        exact ⟨by show fr + H.1.length ≤ te; omega, by show te ≤ 9000; omega, hln, hty, by show ([] : List PT).length ≤ 30; simp, fun q hq => by cases hq⟩

/-- a number, written -/
def numL (n : Nat) : List UInt8 := if h : n < 10 then [UInt8.ofNat (48 + n)] else numL (n / 10) ++ [UInt8.ofNat (48 + n % 10)]
termination_by n
decreasing_by omega
/-- how parts stand, written -/
def tellF : Nat → PT → List UInt8
  | 0, _ => []
  | g + 1, p => if p.ps.length = 0 then [40, 34] ++ p.ty ++ [34, 32] ++ numL p.ln ++ [32] ++ numL (p.to - p.fr) ++ [41]
    else 40 :: p.ps.flatMap (fun q => tellF g q ++ [32]) ++ [34] ++ p.ty ++ [34, 41]
/-- the part that numbers lead to -/
def findF : PT → List Int → Option PT
  | p, [] => some p
  | p, n :: r => if p.ps.length = 0 ∧ n = 1 ∧ r = [] then some p else if n < 1 ∨ n > p.ps.length then none else
    match p.ps[(n - 1).toNat]? with
    | some q => findF q r
    | none => none
theorem num_len : ∀ n, (numL n).length ≤ n + 1 := by
  intro n
  induction n using Nat.strongRecOn with
  | ind n ih =>
    unfold numL
    split
    · simp
    · have := ih (n / 10) (by omega)
      rw [List.length_append, List.length_singleton]; omega
/-- a bound of what is written, so deep -/
def tellB : Nat → Nat
  | 0 => 0
  | g + 1 => 30 * (tellB g + 1) + 100000
theorem flat_len {f : PT → List UInt8} {b : Nat} : ∀ (l : List PT), (∀ q ∈ l, (f q).length ≤ b) → (l.flatMap f).length ≤ l.length * b
  | [], _ => Nat.zero_le _
  | q :: l, h => by
    have ih := flat_len l (fun x hx => h x (List.mem_cons_of_mem _ hx))
    have := h q List.mem_cons_self
    rw [List.flatMap_cons, List.length_append, List.length_cons, Nat.succ_mul]; omega
theorem tell_len : ∀ (g : Nat) (p : PT), Fine g p → (tellF g p).length ≤ tellB g
  | 0, p, h => h.elim
  | g + 1, p, h => by
    obtain ⟨h1, h2, h3, h4, h5, h6⟩ := h
    unfold tellF tellB
    split
    · have := num_len p.ln
      have := num_len (p.to - p.fr)
      simp only [List.length_append, List.length_cons, List.length_nil]
      omega
    · have := flat_len (f := fun q => tellF g q ++ [32]) (b := tellB g + 1) p.ps (fun q hq => by
        have := tell_len g q (h6 q hq)
        simp only [List.length_append, List.length_singleton]; omega)
      have h7 : p.ps.length * (tellB g + 1) ≤ 30 * (tellB g + 1) := Nat.mul_le_mul_right _ h5
      simp only [List.length_append, List.length_cons, List.length_nil]
      omega
theorem tellB_le {g : Nat} (h : g ≤ 7) : tellB g ≤ 100000000000000 := by
  have : ∀ k : Fin 8, tellB k.val ≤ 100000000000000 := by decide
  exact this ⟨g, by omega⟩
end Go.Proofs.YtmjfhhladicacaaGreatDoor
