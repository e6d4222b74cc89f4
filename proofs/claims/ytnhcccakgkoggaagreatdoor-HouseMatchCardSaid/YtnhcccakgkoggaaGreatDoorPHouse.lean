/- Plain laws of maps that are told by their keys in order, and of names in order. No program in sight; no condition beyond those each names. -/
import Derived.Maps.Views
import Derived.Maps.OwnSet
import Derived.Sort.KeysCollected
namespace Go.Proofs.YtnhcccakgkoggaaGreatDoor
open Go.Maps

abbrev Bs := List UInt8
theorem bs_irrefl (a : Bs) : ¬ a < a := List.lt_irrefl a
theorem bs_trans {a b c : Bs} (h1 : a < b) (h2 : b < c) : a < c := List.lt_trans h1 h2
theorem bs_tri (a b : Bs) : a < b ∨ a = b ∨ b < a := by
  by_cases h1 : a < b
  · exact Or.inl h1
  · by_cases h2 : b < a
    · exact Or.inr (Or.inr h2)
    · exact Or.inr (Or.inl (List.le_antisymm (List.not_lt.1 h2) (List.not_lt.1 h1)))
def Sorts (L : List Bs) : Prop := L.Pairwise (· < ·)
theorem Sorts.nodup {L : List Bs} (h : Sorts L) : L.Nodup := List.Pairwise.imp (R := (· < ·)) (S := (· ≠ ·)) (fun {_ b} h e => bs_irrefl b (e ▸ h)) h
/-- a name put where it belongs -/
def insS (s : Bs) (L : List Bs) : List Bs := L.filter (fun x => decide (x < s)) ++ s :: L.filter (fun x => decide (s < x))
def delS (s : Bs) (L : List Bs) : List Bs := L.filter (fun x => !decide (x = s))
theorem mem_insS {s x : Bs} {L : List Bs} : x ∈ insS s L ↔ x = s ∨ x ∈ L := by
  unfold insS
  rw [List.mem_append, List.mem_cons, List.mem_filter, List.mem_filter, decide_eq_true_eq, decide_eq_true_eq]
  constructor
  · rintro (⟨h, _⟩ | rfl | ⟨h, _⟩)
    · exact Or.inr h
    · exact Or.inl rfl
    · exact Or.inr h
  · rintro (rfl | h)
    · exact Or.inr (Or.inl rfl)
    · rcases bs_tri x s with h1 | h1 | h1
      · exact Or.inl ⟨h, h1⟩
      · exact Or.inr (Or.inl h1)
      · exact Or.inr (Or.inr ⟨h, h1⟩)
theorem mem_delS {s x : Bs} {L : List Bs} : x ∈ delS s L ↔ x ∈ L ∧ x ≠ s := by unfold delS; rw [List.mem_filter]; simp
theorem Sorts.ins {s : Bs} {L : List Bs} (h : Sorts L) : Sorts (insS s L) := by
  unfold insS
  refine List.pairwise_append.2 ⟨h.filter _, List.pairwise_cons.2 ⟨fun x hx => by simpa using (List.mem_filter.1 hx).2, h.filter _⟩, ?_⟩
  intro a ha b hb
  have h1 : a < s := by simpa using (List.mem_filter.1 ha).2
  rcases List.mem_cons.1 hb with rfl | hb
  · exact h1
  · exact bs_trans h1 (by simpa using (List.mem_filter.1 hb).2)
theorem Sorts.del {s : Bs} {L : List Bs} (h : Sorts L) : Sorts (delS s L) := h.filter _
theorem sorts_ext {L M : List Bs} (h : Sorts L) (k : Sorts M) (e : ∀ x, x ∈ L ↔ x ∈ M) : L = M :=
  List.Perm.eq_of_pairwise (le := (· < ·)) (fun a b _ _ h1 h2 => absurd (bs_trans h1 h2) (bs_irrefl a)) h k ((List.perm_ext_iff_of_nodup h.nodup k.nodup).2 e)
theorem insS_len {s : Bs} {L : List Bs} (h : Sorts L) (hs : s ∉ L) : (insS s L).length = L.length + 1 := by
  have : (insS s L).Perm (s :: L) := (List.perm_ext_iff_of_nodup h.ins.nodup (List.nodup_cons.2 ⟨hs, h.nodup⟩)).2 fun x => by rw [mem_insS, List.mem_cons]
  rw [this.length_eq]; rfl
theorem delS_len {s : Bs} {L : List Bs} (h : Sorts L) (hs : s ∈ L) : (delS s L).length + 1 = L.length := by
  have h1 : s ∉ delS s L := fun e => (mem_delS.1 e).2 rfl
  have : (s :: delS s L).Perm L := (List.perm_ext_iff_of_nodup (List.nodup_cons.2 ⟨h1, h.del.nodup⟩) h.nodup).2 fun x => by
    rw [List.mem_cons, mem_delS]
    constructor
    · rintro (rfl | h)
      · exact hs
      · exact h.1
    · intro h
      by_cases e : x = s
      · exact Or.inl e
      · exact Or.inr ⟨h, e⟩
  have := this.length_eq
  simpa using this
theorem delS_le (s : Bs) (L : List Bs) : (delS s L).length ≤ L.length := List.length_filter_le _ _
theorem insS_of_mem {s : Bs} {L : List Bs} (h : Sorts L) (hs : s ∈ L) : insS s L = L :=
  sorts_ext h.ins h fun x => by rw [mem_insS]; exact ⟨fun e => e.elim (fun e => e ▸ hs) id, Or.inr⟩
theorem delS_of_not {s : Bs} {L : List Bs} (hs : s ∉ L) : delS s L = L := by
  unfold delS
  rw [List.filter_eq_self]
  intro x hx
  have : x ≠ s := fun e => hs (e ▸ hx)
  simp [this]

/-- a map by its keys in order, and what each has -/
structure MK (z : DataW Unit) (D : DataW Unit) (L : List Bs) (e : Bs → DataW Unit) : Prop where
  tidy : Tidy D
  sorts : Sorts L
  has : ∀ x, Maps.has D (.string x) = decide (x ∈ L)
  at_ : ∀ x, D.atKey (.string x) z = if x ∈ L then e x else z
theorem key_bs (x : Bs) : WideAt.IsKeyLit (.string x) := trivial
theorem lit_ne {x s : Bs} (h : x ≠ s) : Lit.string x ≠ Lit.string s := fun e => h (by injection e)
def updE (e : Bs → DataW Unit) (s : Bs) (d : DataW Unit) : Bs → DataW Unit := fun x => if x = s then d else e x
theorem MK.empty (z : DataW Unit) (e : Bs → DataW Unit) : MK z (.map []) [] e := ⟨tidy_empty, List.Pairwise.nil, fun _ => rfl, fun _ => rfl⟩
theorem MK.put {z D : DataW Unit} {L : List Bs} {e : Bs → DataW Unit} (h : MK z D L e) (s : Bs) (d : DataW Unit) : MK z (D.put (.string s) d) (insS s L) (updE e s d) where
  tidy := h.tidy.put (key_bs s) d
  sorts := h.sorts.ins
  has := fun x => by
    by_cases hx : x = s
    · subst hx
      rw [has_put_same h.tidy.isMap (key_bs x), decide_eq_true (mem_insS.2 (Or.inl rfl))]
    · rw [has_put_other (lit_ne hx), h.has, decide_eq_decide, mem_insS]
      exact ⟨Or.inr, fun e => e.elim (fun e => absurd e hx) id⟩
  at_ := fun x => by
    by_cases hx : x = s
    · subst hx
      rw [atKey_put_same h.tidy.isMap (key_bs x), if_pos (mem_insS.2 (Or.inl rfl))]
      unfold updE; rw [if_pos rfl]
    · rw [atKey_put_other (lit_ne hx), h.at_]
      unfold updE; rw [if_neg hx]
      by_cases hm : x ∈ L
      · rw [if_pos hm, if_pos (mem_insS.2 (Or.inr hm))]
      · rw [if_neg hm, if_neg (fun e => (mem_insS.1 e).elim hx hm)]
theorem MK.del {z D : DataW Unit} {L : List Bs} {e : Bs → DataW Unit} (h : MK z D L e) (s : Bs) : MK z (D.del (.string s)) (delS s L) e where
  tidy := h.tidy.del _
  sorts := h.sorts.del
  has := fun x => by
    by_cases hx : x = s
    · subst hx
      rw [has_del_same, decide_eq_false (fun e => (mem_delS.1 e).2 rfl)]
    · rw [has_del_other (lit_ne hx), h.has, decide_eq_decide, mem_delS]
      exact ⟨fun e => ⟨e, hx⟩, And.left⟩
  at_ := fun x => by
    by_cases hx : x = s
    · subst hx
      rw [atKey_del_same, if_neg (fun e => (mem_delS.1 e).2 rfl)]
    · rw [atKey_del_other (lit_ne hx), h.at_]
      by_cases hm : x ∈ L
      · rw [if_pos hm, if_pos (mem_delS.2 ⟨hm, hx⟩)]
      · rw [if_neg hm, if_neg (fun e => hm (mem_delS.1 e).1)]
theorem MK.congr {z D : DataW Unit} {L : List Bs} {e e' : Bs → DataW Unit} (h : MK z D L e) (he : ∀ x, x ∈ L → e' x = e x) : MK z D L e' :=
  ⟨h.tidy, h.sorts, h.has, fun x => by
    rw [h.at_]
    by_cases hm : x ∈ L
    · rw [if_pos hm, if_pos hm, he x hm]
    · rw [if_neg hm, if_neg hm]⟩
/-- the keys, in whatever order, are the names -/
theorem MK.perm {P : Program} {k : TypeId} {R : Value → Option (DataW Unit × List MemPlace)} {w : World} {b n : Nat} {z D : DataW Unit} {L : List Bs} {e : Bs → DataW Unit} (h : MK z D L e) (hown : w.ownsMap P k R b n D) (hk : P.underlying k = some .string) : L.Perm (strKeys D) := by
  obtain ⟨es, hD, hp⟩ := h.tidy
  obtain ⟨es', hD', hs⟩ := hown.keysOf
  rw [hD] at hD'
  cases hD'
  subst hD
  refine perm_strKeys hp (fun p hp => ?_) h.sorts.nodup (fun x => ?_)
  · obtain ⟨v, hv⟩ := hs p hp
    obtain ⟨x, _, e, _⟩ := keyOf_str hk hv
    exact ⟨x, e⟩
  · rw [h.has, decide_eq_true_eq]
theorem MK.size {P : Program} {k : TypeId} {R : Value → Option (DataW Unit × List MemPlace)} {w : World} {b n : Nat} {z D : DataW Unit} {L : List Bs} {e : Bs → DataW Unit} (h : MK z D L e) (hown : w.ownsMap P k R b n D) (hk : P.underlying k = some .string) : Maps.size D = L.length := by
  rw [(h.perm hown hk).length_eq]
  obtain ⟨es, hD, _⟩ := h.tidy
  subst hD
  simp [strKeys, size_eq]
theorem sorts_merge {L : List Bs} (h : Sorts L) : L.mergeSort leB = L :=
  List.mergeSort_of_pairwise (h.imp fun {a _} h => by simp only [leB, decide_eq_true_eq]; exact List.not_lt.1 (fun e => bs_irrefl a (bs_trans h e)))
end Go.Proofs.YtnhcccakgkoggaaGreatDoor
