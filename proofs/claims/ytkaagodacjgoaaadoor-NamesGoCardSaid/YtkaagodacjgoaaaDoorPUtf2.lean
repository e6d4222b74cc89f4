/- Plain facts on names in letters that go everywhere: what is read, and that what is written is read as it was. No program in sight; no condition beyond those each lemma names. -/
import Derived.Test.YtkaagodacjgoaaaDoorPUtf
import Derived.Lib.IndexMore
namespace Go.Proofs.YtkaagodacjgoaaaDoor
open Go.Lib

def cut1 (c : UInt8) : List UInt8 → List UInt8 × List UInt8 × Bool
  | [] => ([], [], false)
  | b :: l => if b = c then ([], l, true) else (b :: (cut1 c l).1, (cut1 c l).2.1, (cut1 c l).2.2)
theorem index_one (c : UInt8) : ∀ l : List UInt8, index l [c] = indexByte l c
  | [] => rfl
  | b :: l => by
    unfold index indexByte
    rw [index_one c l]
    by_cases h : b = c
    · subst h; simp [List.isPrefixOf]
    · have h1 : (c == b) = false := by simpa using fun e => h e.symm
      have h2 : (b == c) = false := by simpa using h
      simp [List.isPrefixOf, h1, h2]
theorem cut_one (c : UInt8) : ∀ l : List UInt8, cut l [c] = cut1 c l
  | [] => by simp [cut, cut1, index]
  | b :: l => by
    have ih := cut_one c l
    unfold cut at ih ⊢
    rw [index_one] at ih ⊢
    have hg := indexByte_ge l c
    unfold indexByte cut1
    by_cases h : b = c
    · subst h; simp
    · have h2 : (b == c) = false := by simpa using h
      rw [if_neg h]
      simp only [h2, Bool.false_eq_true, if_false]
      by_cases h3 : indexByte l c = -1
      · rw [h3] at ih ⊢
        simp at ih ⊢
        rw [← ih]; simp
      · have h4 : (indexByte l c == -1) = false := by simpa using h3
        have h5 : 0 ≤ indexByte l c := by omega
        obtain ⟨k, hk⟩ := Int.eq_ofNat_of_zero_le h5
        rw [hk] at ih ⊢
        have h6 : ((k : Int) == -1) = false := by rw [beq_eq_false_iff_ne]; omega
        rw [h6]
        simp only [Bool.false_eq_true, if_false]
        rw [if_pos (by omega)] at ih ⊢
        rw [← ih]
        have e1 : ((k : Int) + 1).toNat = k + 1 := by omega
        rw [e1, Int.toNat_natCast]
        simp [Nat.add_right_comm]
def valsOf : List UInt8 → Option (List Nat)
  | [] => some []
  | c :: l => if indexByte LET c < 0 then none else (valsOf l).map ((indexByte LET c).toNat :: ·)
theorem valsOf_snoc : ∀ (l : List UInt8) (c : UInt8) (ks : List Nat), valsOf l = some ks → ¬ indexByte LET c < 0 → valsOf (l ++ [c]) = some (ks ++ [(indexByte LET c).toNat])
  | [], c, ks, h, hc => by
    simp [valsOf] at h; subst h; simp [valsOf, hc]
  | b :: l, c, ks, h, hc => by
    simp only [valsOf] at h
    by_cases hb : indexByte LET b < 0
    · simp [hb] at h
    · simp only [hb, if_false] at h
      cases hv : valsOf l with
      | none => rw [hv] at h; simp at h
      | some q =>
        rw [hv] at h
        simp only [Option.map_some, Option.some.injEq] at h
        subst h
        simp only [List.cons_append, valsOf, hb, if_false, valsOf_snoc l c q hv hc]
        rfl
theorem valsOf_bad : ∀ (l : List UInt8) (k : Nat) (c : UInt8), l[k]? = some c → indexByte LET c < 0 → valsOf l = none
  | [], k, c, h, _ => by simp at h
  | b :: l, 0, c, h, hc => by simp at h; subst h; simp [valsOf, hc]
  | b :: l, k + 1, c, h, hc => by
    simp only [List.getElem?_cons_succ] at h
    have := valsOf_bad l k c h hc
    simp only [valsOf, this]
    split <;> rfl
theorem indexByte_lt (c : UInt8) : ∀ l : List UInt8, indexByte l c < l.length ∨ indexByte l c = -1
  | [] => Or.inr rfl
  | b :: l => by
    have ih := indexByte_lt c l
    unfold indexByte
    split
    · left; simp
    · split
      · exact Or.inr rfl
      · rename_i h
        have : indexByte l c ≠ -1 := by simpa using h
        left; simp; omega
theorem let_index_lt (c : UInt8) (h : ¬ indexByte LET c < 0) : (indexByte LET c).toNat < 64 := by
  have := indexByte_lt c LET
  rw [show (LET.length : Int) = 64 from rfl] at this
  omega
theorem valsOf_lt : ∀ (l : List UInt8) (ks : List Nat), valsOf l = some ks → ∀ k ∈ ks, k < 64
  | [], ks, h => by simp [valsOf] at h; subst h; simp
  | c :: l, ks, h => by
    simp only [valsOf] at h
    by_cases hc : indexByte LET c < 0
    · simp [hc] at h
    · simp only [hc, if_false] at h
      cases hv : valsOf l with
      | none => rw [hv] at h; simp at h
      | some q =>
        rw [hv] at h
        simp only [Option.map_some, Option.some.injEq] at h
        subst h
        intro k hk
        rcases List.mem_cons.1 hk with rfl | hk
        · exact let_index_lt c hc
        · exact valsOf_lt l q hv k hk
/-- the runes that letters of six bits stand for -/
def runesOf (code : List UInt8) : Option (List Nat) := (valsOf code).bind fun ks => pairU (unFold ks).1
/-- what a name's letters are, read from the left -/
def parseF : Nat → List UInt8 → List UInt8 → Option (List UInt8)
  | 0, _, out => some out
  | n + 1, rest, out =>
    if rest = [] then some out
    else if (cut1 38 rest).2.2 = false then some (out ++ (cut1 38 rest).1)
    else if (cut1 45 (cut1 38 rest).2.1).2.2 = false then none
    else match runesOf (cut1 45 (cut1 38 rest).2.1).1 with
      | none => none
      | some l => parseF n (cut1 45 (cut1 38 rest).2.1).2.1 (out ++ (cut1 38 rest).1 ++ (if (cut1 45 (cut1 38 rest).2.1).1 = [] then [38] else []) ++ textOf l)
def decL (s : List UInt8) : Option (List UInt8) :=
  match parseF (s.length + 1) s [] with
  | none => none
  | some out => if rightL out = true ∧ encL out = s then some out else none

theorem cut1_len (c : UInt8) : ∀ l : List UInt8, (cut1 c l).2.2 = true → (cut1 c l).2.1.length < l.length
  | [], h => by simp [cut1] at h
  | b :: l, h => by
    unfold cut1 at h ⊢
    split at h
    · rename_i hb; simp [hb]
    · rename_i hb
      have := cut1_len c l h
      simp [hb]; omega
theorem cut1_app (c : UInt8) : ∀ (a l : List UInt8), (∀ x ∈ a, x ≠ c) → cut1 c (a ++ c :: l) = (a, l, true)
  | [], l, _ => by simp [cut1]
  | x :: a, l, h => by
    simp only [List.cons_append, cut1]
    rw [if_neg (h x (by simp)), cut1_app c a l (fun y hy => h y (List.mem_cons_of_mem _ hy))]
theorem cut1_none (c : UInt8) : ∀ (a : List UInt8), (∀ x ∈ a, x ≠ c) → cut1 c a = (a, [], false)
  | [], _ => by simp [cut1]
  | x :: a, h => by
    simp only [cut1]
    rw [if_neg (h x (by simp)), cut1_none c a (fun y hy => h y (List.mem_cons_of_mem _ hy))]
end Go.Proofs.YtkaagodacjgoaaaDoor
