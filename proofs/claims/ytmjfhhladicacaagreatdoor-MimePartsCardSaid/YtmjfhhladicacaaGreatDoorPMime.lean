/- Plain laws for parts: what a message's parts are, and that they lie in one another, one behind the other. No program in sight; no condition beyond those each names. -/
import Derived.Test.YtmjfhhladicacaaGreatDoorPHead3
namespace Go.Proofs.YtmjfhhladicacaaGreatDoor

inductive PT where
  | mk (ty bd : List UInt8) (fr to ln : Nat) (ps : List PT)
namespace PT
def ty : PT → List UInt8 | mk t _ _ _ _ _ => t
def bd : PT → List UInt8 | mk _ b _ _ _ _ => b
def fr : PT → Nat | mk _ _ f _ _ _ => f
def to : PT → Nat | mk _ _ _ t _ _ => t
def ln : PT → Nat | mk _ _ _ _ l _ => l
def ps : PT → List PT | mk _ _ _ _ _ p => p
end PT

def tpS : List UInt8 := [116, 101, 120, 116, 47, 112, 108, 97, 105, 110]
def ctS : List UInt8 := [99, 111, 110, 116, 101, 110, 116, 45, 116, 121, 112, 101]
def bnS : List UInt8 := [98, 111, 117, 110, 100, 97, 114, 121]
def mpS : List UInt8 := [109, 117, 108, 116, 105, 112, 97, 114, 116, 47]
/-- what a head says it is -/
def kindOf (l : List Fld) : List UInt8 × List UInt8 :=
  match getF l ctS with
  | none => (tpS, [])
  | some v => (smallL (trimB (Lib.cut v [59]).1), (paramL v bnS).getD [])
def kindF (h : List UInt8) : List UInt8 × List UInt8 :=
  match fieldsL h with
  | .inl _ => (tpS, [])
  | .inr l => kindOf l

/-- a line, and where the next one begins -/
def lineEnd (s : List UInt8) (to a : Nat) : Nat := if Lib.index ((s.drop a).take (to - a)) [13, 10] < 0 then to else a + (Lib.index ((s.drop a).take (to - a)) [13, 10]).toNat
def lineOf (s : List UInt8) (to a : Nat) : List UInt8 := Lib.trimRightS ((s.drop a).take (lineEnd s to a - a)) [32, 9]
def nextOf (s : List UInt8) (to a : Nat) : Nat := min (lineEnd s to a + 2) to
def addCut (op : Option Nat) (out : List (Nat × Nat)) (a : Nat) : List (Nat × Nat) := match op with | some o => out ++ [(o, max o (a - 2))] | none => out
def endCut (op : Option Nat) (out : List (Nat × Nat)) (to : Nat) : List (Nat × Nat) := match op with | some o => out ++ [(o, to)] | none => out
/-- where parts lie -/
def cutsF (s : List UInt8) (to : Nat) (b : List UInt8) : Nat → Nat → Option Nat → List (Nat × Nat) → List (Nat × Nat)
  | 0, _, _, out => out
  | g + 1, a, op, out =>
    if a < to then
      if lineOf s to a = 45 :: 45 :: b ∨ lineOf s to a = 45 :: 45 :: (b ++ [45, 45]) then
        if lineOf s to a ≠ 45 :: 45 :: b then (addCut op out a)
        else cutsF s to b g (nextOf s to a) (some (nextOf s to a)) (addCut op out a)
      else cutsF s to b g (nextOf s to a) op out
    else endCut op out to

def partsF (f : Nat → Nat → Nat → Option PT × Nat) : List (Nat × Nat) → Nat → List PT → Option (List PT) × Nat
  | [], n, out => (some out, n)
  | c :: r, n, out =>
    match f n c.1 c.2 with
    | (none, n') => (none, n')
    | (some q, n') => partsF f r n' (out ++ [q])
def multi (k : List UInt8 × List UInt8) : Bool := Lib.hasPrefix k.1 mpS && !k.2.isEmpty
/-- a message's parts, so many deep yet -/
def partF (s : List UInt8) : Nat → Nat → Nat → Nat → Option PT × Nat
  | 0, n, _, _ => (none, n + 1)
  | g + 1, n, fr, to =>
    if 30 < n + 1 then (none, n + 1) else
    let t := (s.drop fr).take (to - fr)
    let k := kindF (splitHd t).1
    let x := fr + (splitHd t).1.length
    let ln := Lib.count (splitHd t).2 [10]
    if multi k then
      match partsF (partF s g) (cutsF s to k.2 (to + 1) x none []) (n + 1) [] with
      | (none, n') => (none, n')
      | (some ps, n') => (some (.mk k.1 k.2 x to ln ps), n')
    else (some (.mk k.1 [] x to ln []), n + 1)

/-! ### parts lie in parts -/
def insL (f : PT → Nat → Bool) : List PT → Nat → Bool
  | [], _ => true
  | q :: r, a => decide (a ≤ q.fr) && f q a && insL f r q.to
def insF : Nat → PT → Nat → Nat → Bool
  | 0, _, _, _ => true
  | g + 1, p, fr, to => decide (fr ≤ p.fr) && decide (p.to ≤ to) && decide (p.fr ≤ p.to) && insL (fun q a => insF g q a p.to) p.ps p.fr
def sumL (f : PT → Nat) : List PT → Nat
  | [] => 0
  | q :: r => f q + sumL f r
def cntF : Nat → PT → Nat
  | 0, _ => 0
  | g + 1, p => 1 + sumL (cntF g) p.ps

theorem cntF_pos (g : Nat) (p : PT) : 1 ≤ cntF (g + 1) p := by simp [cntF]

/-- cuts in order, each within from and to -/
def Rising : List (Nat × Nat) → Nat → Nat → Prop
  | [], a, to => a ≤ to
  | c :: r, a, to => a ≤ c.1 ∧ c.1 ≤ c.2 ∧ Rising r c.2 to
theorem rising_snoc : ∀ (l : List (Nat × Nat)) (a to b c : Nat), Rising l a b → b ≤ c → c ≤ to → ∀ d, c ≤ d → d ≤ to → Rising (l ++ [(c, d)]) a to
  | [], a, to, b, c, h, h1, h2, d, h3, h4 => ⟨Nat.le_trans h h1, h3, h4⟩
  | x :: l, a, to, b, c, h, h1, h2, d, h3, h4 => ⟨h.1, h.2.1, rising_snoc l x.2 to b c h.2.2 h1 h2 d h3 h4⟩
theorem rising_more : ∀ (l : List (Nat × Nat)) (a b c : Nat), Rising l a b → b ≤ c → Rising l a c
  | [], _, _, _, h, h1 => Nat.le_trans h h1
  | x :: l, _, b, c, h, h1 => ⟨h.1, h.2.1, rising_more l x.2 b c h.2.2 h1⟩
theorem rising_le : ∀ (l : List (Nat × Nat)) (a to : Nat), Rising l a to → a ≤ to
  | [], _, _, h => h
  | x :: l, a, to, h => Nat.le_trans h.1 (Nat.le_trans h.2.1 (rising_le l x.2 to h.2.2))
theorem lineEnd_ge {s : List UInt8} {to a : Nat} (h : a ≤ to) : a ≤ lineEnd s to a := by
  unfold lineEnd; split <;> omega
theorem lineEnd_le {s : List UInt8} {to a : Nat} (h : a ≤ to) : lineEnd s to a ≤ to := by
  unfold lineEnd
  split
  · exact Nat.le_refl _
  · rename_i h0
    have := Lib.index_room ((s.drop a).take (to - a)) [13, 10] (by omega)
    simp at this
    omega
theorem nextOf_gt {s : List UInt8} {to a : Nat} (h : a < to) : a < nextOf s to a := by
  have := lineEnd_ge (s := s) (Nat.le_of_lt h)
  unfold nextOf; omega
theorem nextOf_le {s : List UInt8} {to a : Nat} : nextOf s to a ≤ to := by unfold nextOf; omega
/-- cuts rise: each is behind the one ahead of it -/
theorem cuts_rise (s : List UInt8) (to : Nat) (b : List UInt8) (x : Nat) : ∀ (g a : Nat) (op : Option Nat) (out : List (Nat × Nat)) (m : Nat),
    Rising out x m → m ≤ a → a ≤ to → (∀ o, op = some o → m ≤ o ∧ o ≤ a) → Rising (cutsF s to b g a op out) x to
  | 0, a, op, out, m, h, h1, h2, h3 => rising_more out x m to h (by omega)
  | g + 1, a, op, out, m, h, h1, h2, h3 => by
    unfold cutsF
    have key : Rising (addCut op out a) x a := by
      unfold addCut
      cases op with
      | none => exact rising_more out x m a h h1
      | some o =>
        have := h3 o rfl
        exact rising_snoc out x a m o h this.1 this.2 (max o (a - 2)) (by omega) (by omega)
    split
    · rename_i hlt
      have hn := nextOf_gt (s := s) hlt
      have hn2 := nextOf_le (s := s) (to := to) (a := a)
      split
      · split
        · exact rising_more _ x a to key h2
        · exact cuts_rise s to b x g (nextOf s to a) _ _ a key (Nat.le_of_lt hn) hn2 (fun o ho => by cases ho; omega)
      · exact cuts_rise s to b x g (nextOf s to a) op out m h (by omega) hn2 (fun o ho => by have := h3 o ho; omega)
    · unfold endCut
      cases op with
      | none => exact rising_more out x m to h (by omega)
      | some o =>
        have := h3 o rfl
        exact rising_snoc out x to m o h this.1 (by omega) to (by omega) (Nat.le_refl _)

def lastTo (l : List PT) (x : Nat) : Nat := match l.getLast? with | some p => p.to | none => x
theorem insL_snoc (f : PT → Nat → Bool) : ∀ (l : List PT) (q : PT) (a : Nat), insL f (l ++ [q]) a = (insL f l a && (decide (lastTo l a ≤ q.fr) && f q (lastTo l a)))
  | [], q, a => by
    show (decide (a ≤ q.fr) && f q a && true) = (true && (decide (a ≤ q.fr) && f q a))
    rw [Bool.and_true, Bool.true_and]
  | [p], q, a => by
    show (decide (a ≤ p.fr) && f p a && (decide (p.to ≤ q.fr) && f q p.to && true)) = (decide (a ≤ p.fr) && f p a && true && (decide (p.to ≤ q.fr) && f q p.to))
    rw [Bool.and_true, Bool.and_true]
  | p :: p' :: l, q, a => by
    have ih := insL_snoc f (p' :: l) q p.to
    have e : lastTo (p :: p' :: l) a = lastTo (p' :: l) p.to := by
      unfold lastTo
      rw [List.getLast?_cons_cons]
      cases h : (p' :: l).getLast? with
      | none => simp at h
      | some _ => rfl
    rw [List.cons_append, insL, ih, e]
    conv => rhs; rw [insL]
    simp only [Bool.and_assoc]
theorem lastTo_snoc (l : List PT) (q : PT) (x : Nat) : lastTo (l ++ [q]) x = q.to := by simp [lastTo]
theorem insF_iff (g : Nat) (p : PT) (fr to : Nat) : insF (g + 1) p fr to = true ↔ fr ≤ p.fr ∧ p.to ≤ to ∧ p.fr ≤ p.to ∧ insL (fun q a => insF g q a p.to) p.ps p.fr = true := by
  rw [insF, Bool.and_eq_true, Bool.and_eq_true, Bool.and_eq_true, decide_eq_true_eq, decide_eq_true_eq, decide_eq_true_eq, and_assoc, and_assoc]
theorem sumL_snoc (f : PT → Nat) : ∀ (l : List PT) (q : PT), sumL f (l ++ [q]) = sumL f l + f q
  | [], q => by simp [sumL]
  | p :: l, q => by rw [List.cons_append, sumL, sumL_snoc f l q, sumL]; omega
/-- what holds of each part that is read -/
def Good (g : Nat) (n fr to : Nat) (r : Option PT × Nat) : Prop :=
  n < r.2 ∧ (n ≤ 30 → r.1 ≠ none → r.2 ≤ 30) ∧ ∀ p, r.1 = some p → p.to = to ∧ fr ≤ p.fr ∧ insF g p fr to = true ∧ r.2 = n + cntF g p
theorem insF_low : ∀ (g : Nat) (p : PT) (a b to : Nat), insF g p a to = true → b ≤ p.fr → insF g p b to = true
  | 0, _, _, _, _, _, _ => rfl
  | g + 1, p, a, b, to, h, hb => by
    rw [insF_iff] at h ⊢
    exact ⟨hb, h.2⟩
theorem insF_high : ∀ (g : Nat) (p : PT) (a to to' : Nat), insF g p a to = true → to ≤ to' → insF g p a to' = true
  | 0, _, _, _, _, _, _ => rfl
  | g + 1, p, a, to, to', h, hb => by
    rw [insF_iff] at h ⊢
    exact ⟨h.1, by omega, h.2.2⟩
theorem parts_good {g : Nat} {f : Nat → Nat → Nat → Option PT × Nat} (hf : ∀ n fr to, fr ≤ to → Good g n fr to (f n fr to)) (x to : Nat) :
    ∀ (l : List (Nat × Nat)) (n : Nat) (out : List PT) (a n0 : Nat), Rising l a to → insL (fun q c => insF g q c to) out x = true → lastTo out x ≤ a → n = n0 + sumL (cntF g) out →
      n ≤ (partsF f l n out).2 ∧ (n ≤ 30 → (partsF f l n out).1 ≠ none → (partsF f l n out).2 ≤ 30) ∧
        ∀ ps, (partsF f l n out).1 = some ps → insL (fun q c => insF g q c to) ps x = true ∧ (partsF f l n out).2 = n0 + sumL (cntF g) ps
  | [], n, out, a, n0, _, h1, h2, h3 => ⟨Nat.le_refl _, fun h _ => h, fun ps hps => by cases hps; exact ⟨h1, h3⟩⟩
  | c :: r, n, out, a, n0, hr, h1, h2, h3 => by
    have hg := hf n c.1 c.2 hr.2.1
    unfold partsF
    cases hfr : f n c.1 c.2 with
    | mk o n' =>
      rw [hfr] at hg
      cases o with
      | none => exact ⟨Nat.le_of_lt hg.1, fun _ h => absurd rfl h, fun ps hps => by cases hps⟩
      | some q =>
        obtain ⟨hn, hle, hq⟩ := hg
        obtain ⟨hq1, hq2, hq3, hq4⟩ := hq q rfl
        simp only at hn hle hq4
        have hto := rising_le r c.2 to hr.2.2
        have ih := parts_good hf x to r n' (out ++ [q]) c.2 n0 hr.2.2 (by
          rw [insL_snoc, h1, Bool.true_and, Bool.and_eq_true, decide_eq_true_eq]
          exact ⟨Nat.le_trans h2 (Nat.le_trans hr.1 hq2), insF_low g q c.1 _ to (insF_high g q c.1 c.2 to hq3 hto) (Nat.le_trans h2 (Nat.le_trans hr.1 hq2))⟩) (by rw [lastTo_snoc, hq1]; exact Nat.le_refl _) (by rw [sumL_snoc]; omega)
        exact ⟨Nat.le_trans (Nat.le_of_lt hn) ih.1, fun h30 hne => ih.2.1 (hle h30 (by simp)) hne, ih.2.2⟩
theorem splitHd_take (t : List UInt8) : (splitHd t).1.length ≤ t.length := by
  unfold splitHd
  split
  · rw [List.length_take]; omega
  · split
    · exact Nat.le_refl _
    · rw [List.length_take]; omega
theorem part_good (s : List UInt8) : ∀ (g n fr to : Nat), fr ≤ to → to ≤ s.length → Good g n fr to (partF s g n fr to)
  | 0, n, fr, to, _, _ => ⟨by simp [partF], fun _ h => absurd rfl h, fun p hp => by simp [partF] at hp⟩
  | g + 1, n, fr, to, h, hs => by
    have hlen := splitHd_take ((s.drop fr).take (to - fr))
    have htl : ((s.drop fr).take (to - fr)).length = to - fr := by rw [List.length_take, List.length_drop]; omega
    unfold partF
    by_cases h30 : 30 < n + 1
    · rw [if_pos h30]
      exact ⟨by show n < n + 1; omega, fun _ h => absurd rfl h, fun p hp => by cases hp⟩
    · rw [if_neg h30]
      simp only
      generalize splitHd ((s.drop fr).take (to - fr)) = H at hlen
      by_cases hm : multi (kindF H.1) = true
      · rw [if_pos hm]
        have hx : fr + H.1.length ≤ to := by omega
        have hr := cuts_rise s to (kindF H.1).2 (fr + H.1.length) (to + 1) (fr + H.1.length) none [] (fr + H.1.length) (Nat.le_refl _) (Nat.le_refl _) hx (fun o ho => by cases ho)
        have hp := parts_good (g := g) (f := fun n a b => if b ≤ s.length then partF s g n a b else (none, n + 1)) (fun n' fr' to' h' => by
          show Good g n' fr' to' (if to' ≤ s.length then _ else _)
          by_cases hto : to' ≤ s.length
          · rw [if_pos hto]; exact part_good s g n' fr' to' h' hto
          · rw [if_neg hto]; exact ⟨by show n' < n' + 1; omega, fun _ h => absurd rfl h, fun p hp => by cases hp⟩)
          (fr + H.1.length) to (cutsF s to (kindF H.1).2 (to + 1) (fr + H.1.length) none []) (n + 1) [] (fr + H.1.length) (n + 1) hr rfl (Nat.le_refl _) (by simp [sumL])
        have hsame : ∀ (l : List (Nat × Nat)) (a : Nat), Rising l a to → ∀ (m : Nat) (out : List PT), partsF (fun n a b => if b ≤ s.length then partF s g n a b else (none, n + 1)) l m out = partsF (partF s g) l m out := by
          intro l
          induction l with
          | nil => intro a _ m out; rfl
          | cons c r ih =>
            intro a hra m out
            have := rising_le r c.2 to hra.2.2
            unfold partsF
            rw [if_pos (by omega : c.2 ≤ s.length)]
            cases partF s g m c.1 c.2 with
            | mk o n' =>
              cases o with
              | none => rfl
              | some q => exact ih c.2 hra.2.2 n' _
        rw [hsame _ _ hr] at hp
        cases hpp : partsF (partF s g) (cutsF s to (kindF H.1).2 (to + 1) (fr + H.1.length) none []) (n + 1) [] with
        | mk o n' =>
          rw [hpp] at hp
          cases o with
          | none => exact ⟨by have := hp.1; show n < n'; simp only at this; omega, fun _ h => absurd rfl h, fun p hp => by cases hp⟩
          | some ps =>
            obtain ⟨p1, p2, p3⟩ := hp
            obtain ⟨p4, p5⟩ := p3 ps rfl
            simp only at p1 p2 p5
            refine ⟨by show n < n'; omega, fun _ _ => p2 (by omega) (by simp), fun p hp => ?_⟩
            cases hp
            refine ⟨rfl, Nat.le_add_right _ _, ?_, ?_⟩
            · exact (insF_iff _ _ _ _).2 ⟨Nat.le_add_right _ _, Nat.le_refl _, hx, p4⟩
            · show n' = n + (1 + sumL (cntF g) ps); omega
      · rw [if_neg hm]
        refine ⟨by show n < n + 1; omega, fun _ _ => by show n + 1 ≤ 30; omega, fun p hp => ?_⟩
        cases hp
        refine ⟨rfl, Nat.le_add_right _ _, ?_, ?_⟩
        · exact (insF_iff _ _ _ _).2 ⟨Nat.le_add_right _ _, Nat.le_refl _, by show fr + H.1.length ≤ to; omega, rfl⟩
        · rfl
end Go.Proofs.YtmjfhhladicacaaGreatDoor
