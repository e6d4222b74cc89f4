/- Plain laws for FlagsTell: some flags in order are the system's among them and behind them the others, sorted; a map of counts. No program in sight. -/
import Derived.Test.YtiggekmhojlegaaGreatDoorPFlags
import Derived.Maps.Views
import Derived.Maps.OwnSet
import Derived.Sort.KeysCollected
namespace Go.Proofs.YtiggekmhojlegaaGreatDoor
open Go.Sort Go.Maps

theorem cb_lt : ∀ a b : List UInt8, Lib.compareBytes a b < 0 → a < b
  | [], [], h => by simp [Lib.compareBytes] at h
  | [], _ :: _, _ => List.nil_lt_cons _ _
  | _ :: _, [], h => by simp [Lib.compareBytes] at h
  | x :: a, y :: b, h => by
    unfold Lib.compareBytes at h
    rw [List.cons_lt_cons_iff]
    by_cases h1 : x < y
    · exact Or.inl h1
    · by_cases h2 : y < x
      · rw [if_neg h1, if_pos h2] at h; omega
      · rw [if_neg h1, if_neg h2] at h
        exact Or.inr ⟨UInt8.le_antisymm (UInt8.not_lt.1 h2) (UInt8.not_lt.1 h1), cb_lt a b h⟩
theorem cb_of_le {a b : List UInt8} (h : a ≤ b) (hne : a ≠ b) : Lib.compareBytes a b < 0 := by
  rcases Int.lt_trichotomy (Lib.compareBytes a b) 0 with h1 | h1 | h1
  · exact h1
  · exact absurd (cb_zero a b h1) hne
  · have h2 : Lib.compareBytes b a < 0 := by rw [cb_swap]; omega
    exact absurd (cb_lt b a h2) (List.not_lt.2 h)
theorem sys_strict : Strict sysL := by unfold Strict; decide +kernel
theorem rank_sys {x : List UInt8} (h : x ∈ sysL) : rankF x < 5 := List.idxOf_lt_length_of_mem h
theorem rank_not {x : List UInt8} (h : x ∉ sysL) : rankF x = 5 := List.idxOf_eq_length h

/-- the system's flags among some, and behind them the others, sorted, are those in order -/
theorem order_sort {l ss : List (List UInt8)} (hn : ss.Nodup) (hm : ∀ x, x ∈ ss ↔ x ∈ l ∧ x ∉ sysL) : sysL.filter (fun t => decide (t ∈ l)) ++ ss.mergeSort (fun x y => decide (x ≤ y)) = canonF l := by
  have hp := List.mergeSort_perm ss (fun x y => decide (x ≤ y))
  apply canon_of
  · refine List.pairwise_append.2 ⟨List.Pairwise.filter _ sys_strict, ?_, ?_⟩
    · have h1 : (ss.mergeSort (fun x y => decide (x ≤ y))).Pairwise fun a b => decide (a ≤ b) = true := List.pairwise_mergeSort (fun a b c h1 h2 => by simp only [decide_eq_true_eq] at *; exact List.le_trans h1 h2) (fun a b => by simp only [Bool.or_eq_true, decide_eq_true_eq]; exact List.le_total a b) ss
      have h2 : (ss.mergeSort (fun x y => decide (x ≤ y))).Nodup := hp.nodup_iff.2 hn
      refine (h1.and h2).imp_of_mem fun {a b} ha hb h => ?_
      have ra := rank_not ((hm a).1 (hp.mem_iff.1 ha)).2
      have rb := rank_not ((hm b).1 (hp.mem_iff.1 hb)).2
      unfold ltF cmpF
      rw [ra, rb, if_pos rfl, decide_eq_true_eq]
      exact cb_of_le (by simpa using h.1) h.2
    · intro a ha b hb
      have ra := rank_sys (List.mem_filter.1 ha).1
      have rb := rank_not ((hm b).1 (hp.mem_iff.1 hb)).2
      unfold ltF cmpF
      rw [rb, if_neg (by omega), decide_eq_true_eq]
      omega
  · intro x
    rw [List.mem_append, List.mem_filter, hp.mem_iff, hm x, decide_eq_true_eq]
    by_cases h : x ∈ sysL <;> simp [h]

/-- a map's counts -/
def DI (D : DataW Unit) (f : List UInt8 → Nat) : Prop := ∀ x, D.atKey (.string x) (.lit (.int .i64 0)) = .lit (.int .i64 (f x : Int)) ∧ has D (.string x) = decide (0 < f x)
theorem DI.empty : DI (.map []) (fun _ => 0) := fun _ => ⟨rfl, rfl⟩
theorem key_str (x : List UInt8) : WideAt.IsKeyLit (.string x) := trivial
theorem str_ne {x s : List UInt8} (h : x ≠ s) : Lit.string x ≠ Lit.string s := fun e => h (by injection e)
theorem DI.put {D : DataW Unit} {f : List UInt8 → Nat} (h : DI D f) (hD : IsMap D) (s : List UInt8) {c : Int} (hc : c = (f s : Int) + 1) : DI (D.put (.string s) (.lit (.int .i64 c))) (fun x => if x = s then f s + 1 else f x) := by
  subst hc
  intro x
  show _ ∧ has _ _ = decide (0 < if x = s then f s + 1 else f x)
  by_cases hx : x = s
  · subst hx
    rw [if_pos rfl, atKey_put_same hD (key_str x), has_put_same hD (key_str x)]
    exact ⟨by simp, by simp⟩
  · rw [if_neg hx, atKey_put_other (str_ne hx), has_put_other (str_ne hx)]
    simpa [hx] using h x
theorem DI.del {D : DataW Unit} {f : List UInt8 → Nat} (h : DI D f) (s : List UInt8) : DI (D.del (.string s)) (fun x => if x = s then 0 else f x) := by
  intro x
  by_cases hx : x = s
  · subst hx
    rw [atKey_del_same, has_del_same]
    simp
  · rw [atKey_del_other (str_ne hx), has_del_other (str_ne hx)]
    simpa [hx] using h x
theorem DI.congr {D : DataW Unit} {f g : List UInt8 → Nat} (h : DI D f) (e : ∀ x, f x = g x) : DI D g := fun x => by rw [← e x]; exact h x
theorem DI.at {D : DataW Unit} {f : List UInt8 → Nat} (h : DI D f) {s : List UInt8} {c : Int} (hc : D.atKey (.string s) (.lit (.int .i64 0)) = .lit (.int .i64 c)) : c = (f s : Int) := by
  rw [(h s).1] at hc
  injection hc with hc
  injection hc with _ hc
  exact hc.symm
end Go.Proofs.YtiggekmhojlegaaGreatDoor
