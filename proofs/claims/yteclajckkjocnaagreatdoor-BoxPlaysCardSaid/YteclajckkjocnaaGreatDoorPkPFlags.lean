/- Plain laws for heads: letters great and small, names, what a head's lines say. No program in sight; no condition beyond those each names. Plain laws of flags: their order, the one list of some of them in order; what a sort and a compaction leave is that list. No program in sight. -/
import Derived.Lib.SlTrimSet
import Derived.Lib.Split
import Derived.Lib.IndexAny
import Derived.Lib.IndexMore
import Derived.Lib.Hide
import Derived.Lib.Bytealg
import Derived.Lib.SlicesCompact
import Derived.Sort.Statements
import Derived.Shelf.SlSortCmp.Insertion
namespace Go.Proofs.YteclajckkjocnaaGreatDoor
set_option linter.unusedSimpArgs false
def smallC (c : UInt8) : UInt8 := if 65 ≤ c.toNat ∧ c.toNat ≤ 90 then c + 32 else c
def smallL (l : List UInt8) : List UInt8 := l.map smallC
theorem u8_all {p : UInt8 → Prop} (h : ∀ n : Fin 256, p (UInt8.ofNat n.val)) (c : UInt8) : p c := by
  have := h ⟨c.toNat, c.toNat_lt⟩
  simpa using this
end Go.Proofs.YteclajckkjocnaaGreatDoor
namespace Go.Proofs.YteclajckkjocnaaGreatDoor
open Go.Sort
set_option linter.unusedSimpArgs false
/-- the system's flags, in their order -/
def sysL : List (List UInt8) := [[92, 83, 101, 101, 110], [92, 65, 110, 115, 119, 101, 114, 101, 100], [92, 70, 108, 97, 103, 103, 101, 100], [92, 68, 101, 108, 101, 116, 101, 100], [92, 68, 114, 97, 102, 116]]
/-- the letters of other flags -/
def letterC (c : UInt8) : Bool := (97 ≤ c && c ≤ 122) || (65 ≤ c && c ≤ 90) || (48 ≤ c && c ≤ 57) || c == 95 || c == 36
/-- how a flag is called, or what is wrong -/
def nameF (s : List UInt8) : Nat ⊕ List UInt8 :=
  if s.head? = some 92 then match sysL.find? (fun t => smallL t == smallL s) with
    | some t => .inr t
    | none => .inl 3
  else if s = [] ∨ s.all letterC = false then .inl 3 else if 20 < s.length then .inl 4 else .inr s
/-- where a flag stands -/
def rankF (s : List UInt8) : Nat := sysL.idxOf s
theorem rank_le (s : List UInt8) : rankF s ≤ 5 := List.idxOf_le_length
/-- the order of flags -/
def cmpF (a b : List UInt8) : Int := if rankF a = rankF b then Lib.compareBytes a b else (rankF a : Int) - (rankF b : Int)
def ltF (a b : List UInt8) : Bool := decide (cmpF a b < 0)
theorem cb_swap : ∀ a b : List UInt8, Lib.compareBytes b a = -Lib.compareBytes a b
  | [], [] => rfl
  | [], _ :: _ => rfl
  | _ :: _, [] => rfl
  | x :: a, y :: b => by
    unfold Lib.compareBytes
    by_cases h1 : x < y
    · rw [if_neg (UInt8.lt_asymm h1), if_pos h1, if_pos h1]; rfl
    · by_cases h2 : y < x
      · rw [if_pos h2, if_neg h1, if_pos h2]
      · rw [if_neg h2, if_neg h1, if_neg h1, if_neg h2]; exact cb_swap a b
theorem cb_zero : ∀ a b : List UInt8, Lib.compareBytes a b = 0 → a = b
  | [], [], _ => rfl
  | [], _ :: _, h => by simp [Lib.compareBytes] at h
  | _ :: _, [], h => by simp [Lib.compareBytes] at h
  | x :: a, y :: b, h => by
    unfold Lib.compareBytes at h
    by_cases h1 : x < y
    · rw [if_pos h1] at h; omega
    · by_cases h2 : y < x
      · rw [if_neg h1, if_pos h2] at h; omega
      · rw [if_neg h1, if_neg h2] at h
        rw [cb_zero a b h, UInt8.le_antisymm (UInt8.not_lt.1 h2) (UInt8.not_lt.1 h1)]
theorem cb_trans : ∀ a b c : List UInt8, Lib.compareBytes a b < 0 → Lib.compareBytes b c < 0 → Lib.compareBytes a c < 0
  | [], [], _, h, _ => by simp [Lib.compareBytes] at h
  | _ :: _, [], _, h, _ => by simp [Lib.compareBytes] at h
  | _, _ :: _, [], _, h => by simp [Lib.compareBytes] at h
  | [], _ :: _, _ :: _, _, _ => by simp [Lib.compareBytes]
  | x :: a, y :: b, z :: c, h, k => by
    unfold Lib.compareBytes at h k ⊢
    by_cases h1 : x < y
    · by_cases k1 : y < z
      · rw [if_pos (UInt8.lt_trans h1 k1)]; decide
      · by_cases k2 : z < y
        · rw [if_neg k1, if_pos k2] at k; omega
        · have e : y = z := UInt8.le_antisymm (UInt8.not_lt.1 k2) (UInt8.not_lt.1 k1)
          subst e
          rw [if_pos h1]; decide
    · by_cases h2 : y < x
      · rw [if_neg h1, if_pos h2] at h; omega
      · have e : x = y := UInt8.le_antisymm (UInt8.not_lt.1 h2) (UInt8.not_lt.1 h1)
        subst e
        rw [if_neg h1, if_neg h2] at h
        by_cases k1 : x < z
        · rw [if_pos k1]; decide
        · by_cases k2 : z < x
          · rw [if_neg k1, if_pos k2] at k; omega
          · rw [if_neg k1, if_neg k2] at k ⊢
            exact cb_trans a b c h k
theorem cb_self (a : List UInt8) : Lib.compareBytes a a = 0 := by have := cb_swap a a; omega
theorem lt_self (a : List UInt8) : ltF a a = false := by simp [ltF, cmpF, cb_self]
theorem lt_total {a b : List UInt8} (h : ltF a b = false) (k : ltF b a = false) : a = b := by
  unfold ltF cmpF at h k
  simp only [decide_eq_false_iff_not] at h k
  have hs := cb_swap a b
  by_cases e : rankF a = rankF b
  · rw [if_pos e] at h
    rw [if_pos e.symm] at k
    exact cb_zero a b (by omega)
  · rw [if_neg e] at h
    rw [if_neg (fun x => e x.symm)] at k
    omega
theorem lt_trans' {a b c : List UInt8} (h : ltF a b = true) (k : ltF b c = true) : ltF a c = true := by
  unfold ltF cmpF at h k ⊢
  simp only [decide_eq_true_eq] at h k ⊢
  by_cases e : rankF a = rankF b
  · rw [if_pos e] at h
    by_cases e2 : rankF b = rankF c
    · rw [if_pos e2] at k
      rw [if_pos (e.trans e2)]
      exact cb_trans a b c h k
    · rw [if_neg e2] at k
      rw [if_neg (fun x => e2 (e.symm.trans x)), e]
      exact k
  · rw [if_neg e] at h
    by_cases e2 : rankF b = rankF c
    · rw [if_pos e2] at k
      rw [if_neg (fun x => e (x.trans e2.symm)), ← e2]
      exact h
    · rw [if_neg e2] at k
      rw [if_neg (by omega)]
      omega
theorem lt_asym {a b : List UInt8} (h : ltF a b = true) : ltF b a = false := by
  cases k : ltF b a
  · rfl
  · have := lt_trans' h k
    rw [lt_self] at this
    cases this
theorem swo_lt : SWO (ltOf cmpF) where
  irrefl := lt_self
  trans := fun _ _ _ h k => lt_trans' h k
  ntrans := fun x y z h k => by
    have h' : ltF x y = false := h
    have k' : ltF y z = false := k
    show ltF x z = false
    cases hx : ltF x z
    · rfl
    · cases h2 : ltF y x
      · rw [lt_total h' h2] at hx
        rw [hx] at k'; cases k'
      · rw [lt_trans' h2 hx] at k'; cases k'
/-- in order, each once -/
def Strict (l : List (List UInt8)) : Prop := l.Pairwise fun a b => ltF a b = true
def insF (x : List UInt8) : List (List UInt8) → List (List UInt8)
  | [] => [x]
  | y :: l => if ltF x y = true then x :: y :: l else if x = y then y :: l else y :: insF x l
/-- some flags in order, each once -/
def canonF : List (List UInt8) → List (List UInt8)
  | [] => []
  | x :: l => insF x (canonF l)
theorem mem_ins (x z : List UInt8) : ∀ l, z ∈ insF x l ↔ z = x ∨ z ∈ l
  | [] => by simp [insF]
  | y :: l => by
    unfold insF
    split
    · simp
    · split
      · rename_i h; subst h; simp
      · rw [List.mem_cons, mem_ins x z l, List.mem_cons]
        constructor
        · rintro (h | h | h) <;> simp [h]
        · rintro (h | h | h) <;> simp [h]
theorem strict_ins (x : List UInt8) : ∀ l, Strict l → Strict (insF x l)
  | [], _ => by simp [insF, Strict]
  | y :: l, h => by
    unfold insF
    have h2 := List.pairwise_cons.1 h
    split
    · rename_i hx
      exact List.pairwise_cons.2 ⟨fun z hz => by
        rcases List.mem_cons.1 hz with rfl | hz
        · exact hx
        · exact lt_trans' hx (h2.1 z hz), h⟩
    · split
      · exact h
      · rename_i hx hne
        refine List.pairwise_cons.2 ⟨fun z hz => ?_, strict_ins x l h2.2⟩
        rcases (mem_ins x z l).1 hz with rfl | hz
        · cases hy : ltF y z
          · exact absurd (lt_total (by simpa using hx) hy) hne
          · rfl
        · exact h2.1 z hz
theorem strict_canon : ∀ l, Strict (canonF l)
  | [] => List.Pairwise.nil
  | x :: l => strict_ins x _ (strict_canon l)
theorem mem_canon (z : List UInt8) : ∀ l, z ∈ canonF l ↔ z ∈ l
  | [] => Iff.rfl
  | x :: l => by rw [canonF, mem_ins, mem_canon z l, List.mem_cons]
theorem strict_eq : ∀ (l m : List (List UInt8)), Strict l → Strict m → (∀ x, x ∈ l ↔ x ∈ m) → l = m
  | [], [], _, _, _ => rfl
  | [], b :: m, _, _, h => absurd ((h b).2 List.mem_cons_self) List.not_mem_nil
  | a :: l, [], _, _, h => absurd ((h a).1 List.mem_cons_self) List.not_mem_nil
  | a :: l, b :: m, hl, hm, h => by
    have h1 := List.pairwise_cons.1 hl
    have h2 := List.pairwise_cons.1 hm
    have e : a = b := by
      rcases List.mem_cons.1 ((h a).1 List.mem_cons_self) with e | ha
      · exact e
      · rcases List.mem_cons.1 ((h b).2 List.mem_cons_self) with e | hb
        · exact e.symm
        · have := lt_asym (h1.1 b hb)
          rw [h2.1 a ha] at this; cases this
    subst e
    rw [strict_eq l m h1.2 h2.2 (fun x => ?_)]
    have hx : ∀ y, ltF a y = true → y ≠ a := fun y hy e => by rw [e, lt_self] at hy; cases hy
    constructor
    · intro hxl
      rcases List.mem_cons.1 ((h x).1 (List.mem_cons_of_mem _ hxl)) with e | hm'
      · exact absurd e (hx x (h1.1 x hxl))
      · exact hm'
    · intro hxm
      rcases List.mem_cons.1 ((h x).2 (List.mem_cons_of_mem _ hxm)) with e | hl'
      · exact absurd e (hx x (h2.1 x hxm))
      · exact hl'
theorem canon_of {l m : List (List UInt8)} (hs : Strict m) (h : ∀ x, x ∈ m ↔ x ∈ l) : m = canonF l :=
  strict_eq _ _ hs (strict_canon l) (fun x => (h x).trans (mem_canon x l).symm)
theorem canon_strict {l : List (List UInt8)} (hs : Strict l) : canonF l = l := (canon_of hs (fun _ => Iff.rfl)).symm
theorem ins_len (x : List UInt8) : ∀ l, (insF x l).length ≤ l.length + 1
  | [] => by simp [insF]
  | y :: l => by
    unfold insF
    have := ins_len x l
    split
    · simp
    · split
      · simp
      · simp only [List.length_cons]; omega
theorem canon_len : ∀ l, (canonF l).length ≤ l.length
  | [] => Nat.le_refl _
  | x :: l => by
    have := ins_len x (canonF l)
    have := canon_len l
    rw [canonF, List.length_cons]; omega
/-- what a compaction leaves of a sorted row -/
theorem compact_up (d : Array (List UInt8)) (hs : ∀ i j, i < j → j < d.size → ltF d[j]! d[i]! = false) : ∀ m, m ≤ d.size → Strict (Lib.compactUpTo d m) ∧ (∀ x, x ∈ Lib.compactUpTo d m ↔ ∃ j, j < m ∧ d[j]! = x) ∧ (∀ x ∈ Lib.compactUpTo d m, x = d[m - 1]! ∨ ltF x d[m - 1]! = true)
  | 0, _ => ⟨List.Pairwise.nil, fun x => by simp [Lib.compactUpTo], fun x hx => by simp [Lib.compactUpTo] at hx⟩
  | m + 1, hm => by
    obtain ⟨h1, h2, h3⟩ := compact_up d hs m (by omega)
    rw [Lib.compactUpTo_succ, Nat.add_sub_cancel]
    by_cases hk : m = 0 ∨ d[m]! ≠ d[m - 1]!
    · have hke : Lib.keeps d m = true := by simp [Lib.keeps, hk]
      rw [hke, if_pos rfl]
      have hlt : ∀ x ∈ Lib.compactUpTo d m, ltF x d[m]! = true := by
        intro x hx
        rcases Nat.eq_zero_or_pos m with h0 | h0
        · obtain ⟨j, hj, _⟩ := (h2 x).1 hx
          omega
        · have hne : d[m]! ≠ d[m - 1]! := by
            rcases hk with h | h
            · omega
            · exact h
          have hge := hs (m - 1) m (by omega) (by omega)
          have hl : ltF d[m - 1]! d[m]! = true := by
            cases hc : ltF d[m - 1]! d[m]!
            · exact absurd (lt_total hge hc) hne
            · rfl
          rcases h3 x hx with rfl | h
          · exact hl
          · exact lt_trans' h hl
      refine ⟨List.pairwise_append.2 ⟨h1, by simp, fun x hx y hy => by rw [List.mem_singleton] at hy; rw [hy]; exact hlt x hx⟩, fun x => ?_, fun x hx => ?_⟩
      · rw [List.mem_append, List.mem_singleton, h2]
        constructor
        · rintro (⟨j, hj, e⟩ | e)
          · exact ⟨j, by omega, e⟩
          · exact ⟨m, by omega, e.symm⟩
        · rintro ⟨j, hj, e⟩
          rcases Nat.lt_or_ge j m with h | h
          · exact Or.inl ⟨j, h, e⟩
          · obtain rfl : j = m := by omega
            exact Or.inr e.symm
      · rcases List.mem_append.1 hx with hx | hx
        · exact Or.inr (hlt x hx)
        · exact Or.inl (List.mem_singleton.1 hx)
    · have hm0 : 0 < m := by omega
      have he : d[m]! = d[m - 1]! := by
        rcases Classical.em (d[m]! = d[m - 1]!) with h | h
        · exact h
        · exact absurd (Or.inr h) hk
      have hke : Lib.keeps d m = false := by simp [Lib.keeps]; exact ⟨by omega, he⟩
      rw [hke, if_neg (by decide), List.append_nil]
      refine ⟨h1, fun x => ?_, fun x hx => by rw [he]; exact h3 x hx⟩
      rw [h2]
      constructor
      · rintro ⟨j, hj, e⟩; exact ⟨j, by omega, e⟩
      · rintro ⟨j, hj, e⟩
        rcases Nat.lt_or_ge j m with h | h
        · exact ⟨j, h, e⟩
        · obtain rfl : j = m := by omega
          exact ⟨j - 1, by omega, he ▸ e⟩
theorem sort_compact {l : List (List UInt8)} {d : Array (List UInt8)} (hp : PermIn 0 l.toArray.size l.toArray d) (hs : SortedIn (ltOf cmpF) 0 l.toArray.size d) : Lib.compact d.toList = canonF l := by
  have hsz : d.size = l.length := by have := hp.1; simpa using this
  have hperm : d.toList.Perm l := by
    have := hp.2.2
    simp only [List.size_toArray] at this
    rw [← hsz] at this
    have e1 : (d.extract 0 d.size) = d := by simp
    have e2 : (l.toArray.extract 0 d.size) = l.toArray := by rw [hsz]; simp
    rw [e1, e2] at this
    simpa using this
  have hs' : ∀ i j, i < j → j < d.size → ltF d[j]! d[i]! = false := fun i j h1 h2 => hs i j (Nat.zero_le _) h1 (by rw [List.size_toArray, ← hsz]; exact h2)
  obtain ⟨h1, h2, _⟩ := compact_up d hs' d.size (Nat.le_refl _)
  have e : Lib.compact d.toList = Lib.compactUpTo d d.size := by simp [Lib.compact]
  rw [e]
  refine canon_of h1 (fun x => ?_)
  rw [h2, ← hperm.mem_iff]
  constructor
  · rintro ⟨j, hj, rfl⟩
    rw [getElem!_pos d j hj]
    simp
  · intro hx
    obtain ⟨j, hj, e⟩ := List.getElem_of_mem hx
    refine ⟨j, by simpa using hj, ?_⟩
    rw [getElem!_pos d j (by simpa using hj)]
    simpa using e
end Go.Proofs.YteclajckkjocnaaGreatDoor
