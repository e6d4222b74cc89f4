/- Plain laws on names in letters that go everywhere: what is written is read as it was, in letters from 32 to 126. No program in sight; no condition beyond those each lemma names. -/
import Derived.Test.YtkaagodacjgoaaaDoorPUtf2
namespace Go.Proofs.YtkaagodacjgoaaaDoor
open Go.Lib

def flT (wait : List Nat) : List UInt8 := if wait = [] then [] else [38] ++ (sixes (wait.flatMap unitsOf)).map lett ++ [45]
def plainR (r : Nat) : Prop := 32 ≤ r ∧ r ≤ 126 ∧ r ≠ 38
instance (r : Nat) : Decidable (plainR r) := inferInstanceAs (Decidable (_ ∧ _))
def encT : List Nat → List Nat → List UInt8
  | [], wait => flT wait
  | r :: rs, wait => if plainR r then flT wait ++ (UInt8.ofNat r :: encT rs []) else if r = 38 then flT wait ++ (38 :: 45 :: encT rs []) else encT rs (wait ++ [r])
theorem flushL_T (out : List UInt8) (wait : List Nat) : flushL out wait = out ++ flT wait := by
  unfold flushL flT; split <;> simp
theorem encF_T : ∀ (rs : List Nat) (out : List UInt8) (wait : List Nat), encF rs out wait = out ++ encT rs wait
  | [], out, wait => flushL_T out wait
  | r :: rs, out, wait => by
    unfold encF encT
    by_cases hp : plainR r
    · have hp' : 32 ≤ r ∧ r ≤ 126 ∧ r ≠ 38 := hp
      rw [if_pos hp, if_pos hp', encF_T rs, flushL_T]; simp
    · have hp' : ¬ (32 ≤ r ∧ r ≤ 126 ∧ r ≠ 38) := hp
      rw [if_neg hp, if_neg hp']
      by_cases h38 : r = 38
      · rw [if_pos h38, if_pos h38, encF_T rs, flushL_T]; simp
      · rw [if_neg h38, if_neg h38, encF_T rs]
theorem encL_T (l : List UInt8) : encL l = encT (runesL l) [] := by unfold encL; rw [encF_T]; rfl

theorem lett_facts : ∀ k : Fin 64, indexByte LET (lett k.val) = (k.val : Int) ∧ lett k.val ≠ 38 ∧ lett k.val ≠ 45 ∧ 32 ≤ (lett k.val).toNat ∧ (lett k.val).toNat ≤ 126 := by decide +kernel
theorem valsOf_lett : ∀ ks : List Nat, (∀ k ∈ ks, k < 64) → valsOf (ks.map lett) = some ks
  | [], _ => rfl
  | k :: ks, h => by
    have h1 := (lett_facts ⟨k, h k (by simp)⟩).1
    simp only [] at h1
    simp only [List.map_cons, valsOf, h1]
    rw [if_neg (by omega), valsOf_lett ks (fun x hx => h x (List.mem_cons_of_mem _ hx))]
    simp
theorem units_scalar_lt (wait : List Nat) (h : ∀ r ∈ wait, scalar r) : ∀ u ∈ wait.flatMap unitsOf, u < 65536 :=
  units_all_lt wait (fun r hr => by have := h r hr; unfold scalar at this; omega)
theorem runesOf_code (wait : List Nat) (h : ∀ r ∈ wait, scalar r) : runesOf ((sixes (wait.flatMap unitsOf)).map lett) = some wait := by
  have hu := units_scalar_lt wait h
  unfold runesOf
  rw [valsOf_lett _ (sixes_lt _ hu)]
  show pairU (unFold (sixes (wait.flatMap unitsOf))).1 = _
  rw [unFold_sixes _ hu, pairU_units wait h]
theorem code_ne (wait : List Nat) (h : ∀ r ∈ wait, scalar r) (hne : wait ≠ []) : (sixes (wait.flatMap unitsOf)).map lett ≠ [] := by
  intro h0
  have h1 := runesOf_code wait h
  rw [h0] at h1
  have : runesOf [] = some [] := rfl
  rw [this] at h1
  exact hne (Option.some.inj h1).symm
theorem code_mem (wait : List Nat) (h : ∀ r ∈ wait, scalar r) : ∀ c ∈ (sixes (wait.flatMap unitsOf)).map lett, c ≠ 38 ∧ c ≠ 45 ∧ 32 ≤ c.toNat ∧ c.toNat ≤ 126 := by
  intro c hc
  obtain ⟨k, hk, rfl⟩ := List.mem_map.1 hc
  exact (lett_facts ⟨k, sixes_lt _ (units_scalar_lt wait h) k hk⟩).2

theorem parse_cons (n : Nat) (c : UInt8) (rest out : List UInt8) (hc : c ≠ 38) : parseF (n + 1) (c :: rest) out = parseF (n + 1) rest (out ++ [c]) := by
  have e : cut1 38 (c :: rest) = (c :: (cut1 38 rest).1, (cut1 38 rest).2.1, (cut1 38 rest).2.2) := by
    simp only [cut1, if_neg hc]
  by_cases h0 : rest = []
  · subst h0
    simp [parseF, cut1, hc]
  · simp only [parseF, e, if_neg h0, List.cons_ne_nil, if_false, List.append_assoc, List.cons_append, List.nil_append]
theorem parse_and (n : Nat) (rest out : List UInt8) : parseF (n + 1) (38 :: 45 :: rest) out = parseF n rest (out ++ [38]) := by
  simp [parseF, cut1, runesOf, valsOf, unFold, pairU, textOf]
theorem parse_code (n : Nat) (wait : List Nat) (rest out : List UInt8) (h : ∀ r ∈ wait, scalar r) (hne : wait ≠ []) :
    parseF (n + 1) (38 :: ((sixes (wait.flatMap unitsOf)).map lett ++ 45 :: rest)) out = parseF n rest (out ++ textOf wait) := by
  have h1 := runesOf_code wait h
  have h2 := code_ne wait h hne
  have h3 := code_mem wait h
  generalize (sixes (wait.flatMap unitsOf)).map lett = code at h1 h2 h3
  have e1 : cut1 38 (38 :: (code ++ 45 :: rest)) = ([], code ++ 45 :: rest, true) := by simp [cut1]
  have e2 : cut1 45 (code ++ 45 :: rest) = (code, rest, true) := cut1_app 45 code rest (fun x hx => (h3 x hx).2.1)
  simp [parseF, e1, e2, h1, h2]
theorem plain_text (r : Nat) (h : r ≤ 126) : encodeRune (r : Int) = [UInt8.ofNat r] := by
  unfold encodeRune
  rw [encodeRuneZ_one (by omega) (by omega)]
  simp
theorem flT_len (wait : List Nat) (h : wait ≠ []) : 2 ≤ (flT wait).length := by
  unfold flT; rw [if_neg h]; simp
theorem parse_flT (n : Nat) (wait : List Nat) (rest out : List UInt8) (h : ∀ r ∈ wait, scalar r) (hn : (flT wait).length ≤ n) :
    ∃ m, n ≤ m + (flT wait).length ∧ parseF n (flT wait ++ rest) out = parseF m rest (out ++ textOf wait) := by
  by_cases hne : wait = []
  · subst hne
    exact ⟨n, by simp [flT], by simp [flT, textOf]⟩
  · have h2 := flT_len wait hne
    obtain ⟨m, rfl⟩ : ∃ m, n = m + 1 := ⟨n - 1, by omega⟩
    refine ⟨m, by omega, ?_⟩
    have : flT wait ++ rest = 38 :: ((sixes (wait.flatMap unitsOf)).map lett ++ 45 :: rest) := by
      unfold flT; rw [if_neg hne]; simp
    rw [this, parse_code m wait rest out h hne]
theorem parse_enc : ∀ (rs wait : List Nat) (n : Nat) (out : List UInt8), (∀ r ∈ rs, scalar r) → (∀ r ∈ wait, scalar r) → (encT rs wait).length < n → parseF n (encT rs wait) out = some (out ++ textOf wait ++ textOf rs)
  | [], wait, n, out, _, hw, hn => by
    have hn' : (flT wait).length < n := hn
    obtain ⟨m, hm, e⟩ := parse_flT n wait [] out hw (by omega)
    rw [List.append_nil] at e
    show parseF n (flT wait) out = _
    rw [e]
    have : m ≠ 0 := by omega
    obtain ⟨q, rfl⟩ : ∃ q, m = q + 1 := ⟨m - 1, by omega⟩
    simp [parseF, textOf]
  | r :: rs, wait, n, out, hr, hw, hn => by
    have hrs : ∀ x ∈ rs, scalar x := fun x hx => hr x (List.mem_cons_of_mem _ hx)
    unfold encT at hn ⊢
    by_cases hp : plainR r
    · rw [if_pos hp] at hn ⊢
      simp only [List.length_append, List.length_cons] at hn
      obtain ⟨m, hm, e⟩ := parse_flT n wait (UInt8.ofNat r :: encT rs []) out hw (by omega)
      rw [e]
      obtain ⟨q, rfl⟩ : ∃ q, m = q + 1 := ⟨m - 1, by omega⟩
      have hc : UInt8.ofNat r ≠ 38 := by
        intro h
        have := congrArg UInt8.toNat h
        unfold plainR at hp
        simp at this
        omega
      rw [parse_cons _ _ _ _ hc, parse_enc rs [] (q + 1) _ hrs (by simp) (by omega)]
      unfold textOf
      rw [List.flatMap_cons, plain_text r hp.2.1]
      simp
    · rw [if_neg hp] at hn ⊢
      by_cases h38 : r = 38
      · rw [if_pos h38] at hn ⊢
        simp only [List.length_append, List.length_cons] at hn
        obtain ⟨m, hm, e⟩ := parse_flT n wait (38 :: 45 :: encT rs []) out hw (by omega)
        rw [e]
        obtain ⟨q, rfl⟩ : ∃ q, m = q + 1 := ⟨m - 1, by omega⟩
        rw [parse_and, parse_enc rs [] q _ hrs (by simp) (by omega)]
        unfold textOf
        rw [List.flatMap_cons, h38, plain_text 38 (by omega)]
        simp
      · rw [if_neg h38] at hn ⊢
        rw [parse_enc rs (wait ++ [r]) n out hrs (by
          intro x hx
          rcases List.mem_append.1 hx with hx | hx
          · exact hw x hx
          · rw [List.mem_singleton] at hx; rw [hx]; exact hr r (by simp)) hn]
        unfold textOf
        simp
theorem dec_enc (l : List UInt8) (h : rightL l = true) : decL (encL l) = some l := by
  have hv : validD l = true := by
    unfold rightL at h; simp only [Bool.and_eq_true] at h; exact h.2.2.1
  unfold decL
  have e : parseF ((encL l).length + 1) (encL l) [] = some l := by
    rw [encL_T, parse_enc (runesL l) [] _ [] (runesL_scalar l) (by simp) (by omega), text_runes l.length l (Nat.le_refl _) hv]
    simp [textOf]
  rw [e]
  show (if rightL l = true ∧ encL l = encL l then some l else none) = some l
  rw [if_pos ⟨h, rfl⟩]
theorem dec_some (s o : List UInt8) (h : decL s = some o) : rightL o = true ∧ encL o = s := by
  unfold decL at h
  split at h
  · cases h
  · split at h
    · rename_i hc; cases h; exact hc
    · cases h
theorem enc_letters : ∀ (rs wait : List Nat), (∀ r ∈ rs, scalar r) → (∀ r ∈ wait, scalar r) → ∀ c ∈ encT rs wait, 32 ≤ c.toNat ∧ c.toNat ≤ 126
  | [], wait, _, hw, c, hc => flT_letters wait hw c hc
  | r :: rs, wait, hr, hw, c, hc => by
    have hrs : ∀ x ∈ rs, scalar x := fun x hx => hr x (List.mem_cons_of_mem _ hx)
    unfold encT at hc
    by_cases hp : plainR r
    · rw [if_pos hp] at hc
      rcases List.mem_append.1 hc with hc | hc
      · exact flT_letters wait hw c hc
      · rcases List.mem_cons.1 hc with rfl | hc
        · unfold plainR at hp; simp; omega
        · exact enc_letters rs [] hrs (by simp) c hc
    · rw [if_neg hp] at hc
      by_cases h38 : r = 38
      · rw [if_pos h38] at hc
        rcases List.mem_append.1 hc with hc | hc
        · exact flT_letters wait hw c hc
        · rcases List.mem_cons.1 hc with rfl | hc
          · decide
          · rcases List.mem_cons.1 hc with rfl | hc
            · decide
            · exact enc_letters rs [] hrs (by simp) c hc
      · rw [if_neg h38] at hc
        refine enc_letters rs (wait ++ [r]) hrs ?_ c hc
        intro x hx
        rcases List.mem_append.1 hx with hx | hx
        · exact hw x hx
        · rw [List.mem_singleton] at hx; rw [hx]; exact hr r (by simp)
where
  flT_letters (wait : List Nat) (hw : ∀ r ∈ wait, scalar r) (c : UInt8) (hc : c ∈ flT wait) : 32 ≤ c.toNat ∧ c.toNat ≤ 126 := by
    unfold flT at hc
    split at hc
    · simp at hc
    · rcases List.mem_append.1 hc with hc | hc
      · rcases List.mem_append.1 hc with hc | hc
        · rw [List.mem_singleton] at hc; subst hc; decide
        · exact (code_mem wait hw c hc).2.2
      · rw [List.mem_singleton] at hc; subst hc; decide
theorem encL_letters (l : List UInt8) : ∀ c ∈ encL l, 32 ≤ c.toNat ∧ c.toNat ≤ 126 := by
  rw [encL_T]; exact enc_letters (runesL l) [] (runesL_scalar l) (by simp)
theorem encT_len : ∀ (rs wait : List Nat), (∀ r ∈ rs, r ≤ 1114111) → (∀ r ∈ wait, r ≤ 1114111) → (encT rs wait).length ≤ 9 * (rs.length + wait.length)
  | [], wait, _, hw => by
    have := flushL_len [] wait hw
    rw [flushL_T] at this
    simp at this
    show (flT wait).length ≤ _
    simp; omega
  | r :: rs, wait, hr, hw => by
    have hrs : ∀ x ∈ rs, x ≤ 1114111 := fun x hx => hr x (List.mem_cons_of_mem _ hx)
    have h1 := flushL_len [] wait hw
    rw [flushL_T] at h1
    simp at h1
    unfold encT
    split
    · have := encT_len rs [] hrs (by simp)
      simp at this ⊢; omega
    · split
      · have := encT_len rs [] hrs (by simp)
        simp at this ⊢; omega
      · have := encT_len rs (wait ++ [r]) hrs (by
          intro x hx
          rcases List.mem_append.1 hx with hx | hx
          · exact hw x hx
          · rw [List.mem_singleton] at hx; rw [hx]; exact hr r (by simp))
        simp at this ⊢; omega
theorem encL_len (l : List UInt8) : (encL l).length ≤ 9 * l.length := by
  rw [encL_T]
  have h1 := encT_len (runesL l) [] (runesL_le l) (by simp)
  have h2 := runesL_length l
  simp at h1
  omega
end Go.Proofs.YtkaagodacjgoaaaDoor
