/- Plain laws for heads, fifth part: how long a head is that is written again. No program in sight; no condition beyond those each names. -/
import Derived.Test.YtmjfhhladicacaaGreatDoorPHead3
namespace Go.Proofs.YtmjfhhladicacaaGreatDoor

def tot (l : List Fld) : Nat := (l.map fun f => f.1.length + f.2.length + 4).sum
def totP (P : List (List UInt8)) : Nat := (P.map fun p => p.length + 4).sum
theorem print_tot (l : List Fld) : (printF l).length = tot l + 2 := by
  unfold printF tot
  rw [List.length_append]
  congr 1
  induction l with
  | nil => rfl
  | cons f l ih =>
    rw [List.flatMap_cons, List.length_append, ih, List.map_cons, List.sum_cons]
    simp [lineF]; omega
theorem dropWhile_le (p : UInt8 → Bool) (l : List UInt8) : (l.dropWhile p).length ≤ l.length := by
  obtain ⟨a, ha⟩ := dropWhile_sub (p := p) l
  have := congrArg List.length ha
  rw [List.length_append] at this
  omega
theorem trimS_le (l cs : List UInt8) : (Lib.trimS l cs).length ≤ l.length := by
  unfold Lib.trimS Lib.trimRightS Lib.trimLeftS
  have h1 := dropWhile_le (cs.contains ·) l.reverse
  have h2 := dropWhile_le (cs.contains ·) (l.reverse.dropWhile (cs.contains ·)).reverse
  rw [List.length_reverse] at h1 h2
  omega
theorem cut_le (l : List UInt8) : (Lib.cut l [58]).1.length + (Lib.cut l [58]).2.1.length ≤ l.length := by
  unfold Lib.cut
  split
  · simp only [List.length_take, List.length_drop]; omega
  · simp
theorem fieldsF_tot : ∀ (P : List (List UInt8)) (i : Nat) (out l : List Fld), fieldsF i P out = .inr l → tot l ≤ tot out + totP P
  | [], i, out, l, h => by cases h; exact Nat.le_add_right _ _
  | p :: P, i, out, l, h => by
    have hP : totP (p :: P) = p.length + 4 + totP P := by simp [totP]
    rw [hP]
    unfold fieldsF at h
    split at h
    · have := fieldsF_tot P _ _ _ h; omega
    · split at h
      · cases h
      · split at h
        · split at h
          · cases h
          · rename_i hne
            obtain ⟨o, f, rfl⟩ : ∃ o f, out = o ++ [f] := by
              rcases List.eq_nil_or_concat out with h' | ⟨o, f, h'⟩
              · exact absurd h' hne
              · exact ⟨o, f, by rw [h', List.concat_eq_append]⟩
            have hg : lastGrow (o ++ [f]) p = o ++ [(f.1, trimW (f.2 ++ [32] ++ trimB p))] := by
              unfold lastGrow; simp
            rw [hg] at h
            have h2 := fieldsF_tot P _ _ _ h
            have e1 : tot (o ++ [f]) = tot o + (f.1.length + f.2.length + 4) := by simp [tot]
            have e2 : tot (o ++ [(f.1, trimW (f.2 ++ [32] ++ trimB p))]) = tot o + (f.1.length + (trimW (f.2 ++ [32] ++ trimB p)).length + 4) := by simp [tot]
            have h3 : (trimW (f.2 ++ [32] ++ trimB p)).length ≤ (f.2 ++ [32] ++ trimB p).length := trimS_le _ _
            have h4 : (trimB p).length ≤ p.length := trimS_le _ _
            simp only [List.length_append, List.length_singleton] at h3
            omega
        · split at h
          · cases h
          · split at h
            · cases h
            · have h2 := fieldsF_tot P _ _ _ h
              have e2 : tot (out ++ [((Lib.cut p [58]).1, trimB (Lib.cut p [58]).2.1)]) = tot out + ((Lib.cut p [58]).1.length + (trimB (Lib.cut p [58]).2.1).length + 4) := by simp [tot]
              have h3 := cut_le p
              have h4 : (trimB (Lib.cut p [58]).2.1).length ≤ (Lib.cut p [58]).2.1.length := trimS_le _ _
              omega
theorem splitK_tot (sep : List UInt8) : ∀ (k : Nat) (s : List UInt8), totP (Lib.splitK sep 0 k s) ≤ s.length + 4 * (k + 1)
  | 0, s => by simp [Lib.splitK, totP]
  | k + 1, s => by
    unfold Lib.splitK
    split
    · simp [totP]; omega
    · have h1 := splitK_tot sep k (s.drop ((Lib.index s sep).toNat + sep.length))
      have e : ∀ (p : List UInt8) P, totP (p :: P) = p.length + 4 + totP P := fun p P => by simp [totP]
      rw [e]
      rw [List.length_drop] at h1
      rw [List.length_take]
      omega
theorem print_le {s : List UInt8} {l : List Fld} (h : fieldsL s = .inr l) : (printF l).length ≤ 5 * s.length + 20 := by
  have h1 := fieldsF_tot _ _ _ _ h
  have h2 := splitK_tot [13, 10] (Lib.count (splitHd s).1 [13, 10]) (splitHd s).1
  have h3 := Lib.count_le (splitHd s).1 [13, 10]
  have h4 : (splitHd s).1.length ≤ s.length := by
    have := congrArg List.length (splitHd_cat s)
    rw [List.length_append] at this; omega
  have h5 : tot ([] : List Fld) = 0 := rfl
  rw [print_tot]
  unfold Lib.split at h1
  omega
end Go.Proofs.YtmjfhhladicacaaGreatDoor
