/- What may be a name: of a name that may be, what lies ahead of a / may be one; and so may it be called otherwise. No program in sight. What holds of a house whatever is done: its boxes may be, no two have one number, all in which one lies are there, INBOX is. No program in sight. Whatever is done to a house, what holds of it goes on. No program in sight. -/
import Derived.Test.YtdlfbhbgemoelaaGreatDoorPHouse7
import Derived.Lib.TrimUEq
namespace Go.Proofs.YtdlfbhbgemoelaaGreatDoor

theorem decodeN_wide (n b0 b1 b2 b3 : Nat) (hn : 1 ≤ n) : 1 ≤ (Lib.decodeN n b0 b1 b2 b3).2 ∧ (Lib.decodeN n b0 b1 b2 b3).2 ≤ n := by
  unfold Lib.decodeN
  repeat' split
  all_goals (simp only; omega)
theorem decode_cut (a t : Bs) (ha : a ≠ []) : Lib.decodeL (a ++ 47 :: t) = Lib.decodeL a ∧ 1 ≤ (Lib.decodeL a).2 ∧ (Lib.decodeL a).2 ≤ a.length := by
  have hl : 1 ≤ a.length := by cases a with
    | nil => exact absurd rfl ha
    | cons x r => simp
  refine ⟨?_, by rw [Lib.decodeL_N]; exact decodeN_wide _ _ _ _ _ hl⟩
  rw [Lib.decodeL_N, Lib.decodeL_N]
  match a with
  | [x] => simp [Lib.decodeN]
  | [x, y] => simp [Lib.decodeN]
  | [x, y, z] => simp [Lib.decodeN]
  | x :: y :: z :: u :: r => simp [Lib.decodeN]
theorem valid_cut : ∀ (k : Nat) (a t : Bs), a.length ≤ k → Lib.validD (a ++ 47 :: t) = (Lib.validD a && Lib.validD t) ∧ runesL (a ++ 47 :: t) = runesL a ++ 47 :: runesL t
  | _, [], t, _ => ⟨by rw [List.nil_append, Lib.validD_cons 47 t (by decide)]; rfl, by rw [List.nil_append, runesL_ascii 47 t (by decide)]; rfl⟩
  | 0, x :: a, t, h => by simp at h
  | k + 1, x :: a, t, h => by
    obtain ⟨e, h1, h2⟩ := decode_cut (x :: a) t (by simp)
    have hd : ((x :: a) ++ 47 :: t).drop (Lib.decodeL (x :: a)).2 = (x :: a).drop (Lib.decodeL (x :: a)).2 ++ 47 :: t := List.drop_append_of_le_length h2
    obtain ⟨i1, i2⟩ := valid_cut k ((x :: a).drop (Lib.decodeL (x :: a)).2) t (by rw [List.length_drop]; omega)
    refine ⟨?_, ?_⟩
    · rw [Lib.validD_step ((x :: a) ++ 47 :: t) (by simp), e, hd, i1, Lib.validD_step (x :: a) (by simp)]
      split <;> simp
    · rw [runesL_step ((x :: a) ++ 47 :: t) (by simp), e, hd, i2, runesL_step (x :: a) (by simp)]
      rfl
theorem right_cut {a t : Bs} (h : rightL (a ++ 47 :: t) = true) : (a ≠ [] → rightL a = true) ∧ Lib.validD t = true ∧ ((runesL t).all fun r => !badRune r) = true := by
  obtain ⟨e1, e2⟩ := valid_cut a.length a t (Nat.le_refl _)
  unfold rightL at h
  have h' : (decide ((a ++ 47 :: t).length ≤ 60) && (Lib.validD (a ++ 47 :: t) && (runesL (a ++ 47 :: t)).all fun r => !badRune r)) = true := by
    simp only [Bool.and_eq_true] at h ⊢
    exact h.2
  rw [e1, e2, List.all_append, List.all_cons] at h'
  simp only [Bool.and_eq_true, decide_eq_true_eq] at h'
  obtain ⟨h1, ⟨h2, h3⟩, h4, _, h5⟩ := h'
  refine ⟨fun ha => ?_, h3, h5⟩
  unfold rightL
  simp only [Bool.and_eq_true, decide_eq_true_eq]
  rw [List.length_append] at h1
  exact ⟨by cases a with
    | nil => exact absurd rfl ha
    | cons x r => rfl, by omega, h2, h4⟩
theorem right_join {a t : Bs} (ha : rightL a = true) (h1 : Lib.validD t = true) (h2 : ((runesL t).all fun r => !badRune r) = true) (hl : (a ++ 47 :: t).length ≤ 60) : rightL (a ++ 47 :: t) = true := by
  obtain ⟨e1, e2⟩ := valid_cut a.length a t (Nat.le_refl _)
  unfold rightL at ha ⊢
  simp only [Bool.and_eq_true, decide_eq_true_eq] at ha ⊢
  refine ⟨by simp, hl, ?_, ?_⟩
  · show Lib.validD (a ++ 47 :: t) = true
    rw [e1, h1]
    have : Lib.validD a = true := ha.2.2.1
    rw [this]; rfl
  · rw [e2, List.all_append, List.all_cons, ha.2.2.2, h2]; rfl
structure NameOk (s : Bs) : Prop where
  right : rightL s = true
  head : ∀ t, s ≠ 47 :: t
  last : ∀ t, s ≠ t ++ [47]
  two : ∀ x y, s ≠ x ++ 47 :: 47 :: y
  bare : ∀ c ∈ s, c ≠ 37 ∧ c ≠ 42
theorem okName_iff (s : Bs) : hokName s = true ↔ NameOk s := by
  unfold hokName
  simp only [Bool.and_eq_true, Bool.not_eq_true']
  constructor
  · rintro ⟨h1, h2, h3, h4, h5⟩
    refine ⟨h1, fun t e => ?_, fun t e => ?_, fun x y e => ?_, fun c hc => ?_⟩
    · rw [e] at h2
      simp [Lib.hasPrefix, List.isPrefixOf] at h2
    · have := (suffix_one s 47).2 ⟨t, e⟩
      rw [h3] at this; cases this
    · have : Lib.contains s [47, 47] = true := has_text.2 ⟨x, y, by rw [e]; simp⟩
      rw [h4] at this; cases this
    · have := noAny h5 c hc
      simp only [List.contains_cons, List.contains_nil, Bool.or_false, Bool.or_eq_false_iff, beq_eq_false_iff_ne] at this
      exact this
  · intro h
    refine ⟨h.right, ?_, ?_, ?_, any_none' fun c hc => ?_⟩
    · cases hx : Lib.hasPrefix s [47] with
      | false => rfl
      | true =>
        obtain ⟨t, ht⟩ := List.isPrefixOf_iff_prefix.1 hx
        exact absurd ht.symm (h.head t)
    · cases hx : Lib.hasSuffix s [47] with
      | false => rfl
      | true =>
        obtain ⟨t, ht⟩ := (suffix_one s 47).1 hx
        exact absurd ht (h.last t)
    · cases hx : Lib.contains s [47, 47] with
      | false => rfl
      | true =>
        obtain ⟨x, y, hxy⟩ := has_text.1 hx
        exact absurd (by rw [hxy]; simp) (h.two x y)
    · obtain ⟨h1, h2⟩ := h.bare c hc
      simp [h1, h2]
theorem first_cut (a t : Bs) : hfirstN (a ++ 47 :: t) = hfirstN a := by
  obtain ⟨r, h1, h2, h3⟩ := first_split a
  have e : a ++ 47 :: t = hfirstN a ++ (r ++ 47 :: t) := by
    conv => lhs; rw [h1]
    rw [List.append_assoc]
  rw [e]
  refine first_of h2 (Or.inr ?_)
  rcases h3 with rfl | ⟨u, rfl⟩
  · exact ⟨t, rfl⟩
  · exact ⟨u ++ 47 :: t, rfl⟩
/-- a name that is called just so -/
def Proper (n : Bs) : Prop := hnameF n = some n
theorem proper_iff (n : Bs) : Proper n ↔ NameOk n ∧ (greatL (hfirstN n) = inboxB → hfirstN n = inboxB) := by
  unfold Proper hnameF
  rw [← okName_iff]
  constructor
  · intro h
    split at h
    · rename_i hok
      refine ⟨hok, fun hg => ?_⟩
      rw [if_pos hg] at h
      obtain ⟨r, h1, _, _⟩ := first_split n
      have hd : n.drop (hfirstN n).length = r := by
        have := congrArg (List.drop (hfirstN n).length) h1
        rwa [List.drop_left] at this
      rw [hd] at h
      have := Option.some.inj h
      exact (List.append_cancel_right (this.trans h1)).symm
    · cases h
  · rintro ⟨hok, hg⟩
    rw [if_pos hok]
    split
    · rename_i h
      obtain ⟨r, h1, _, _⟩ := first_split n
      have hd : n.drop (hfirstN n).length = r := by
        have := congrArg (List.drop (hfirstN n).length) h1
        rwa [List.drop_left] at this
      rw [hd, ← hg h, ← h1]
    · rfl
theorem Proper.up {a t : Bs} (h : Proper (a ++ 47 :: t)) : Proper a := by
  obtain ⟨h1, h2⟩ := (proper_iff _).1 h
  have hne : a ≠ [] := fun e => h1.head t (by rw [e]; rfl)
  refine (proper_iff _).2 ⟨⟨(right_cut h1.right).1 hne, fun u e => h1.head (u ++ 47 :: t) (by rw [e]; rfl), fun u e => h1.two u t (by rw [e]; simp), fun x y e => h1.two x (y ++ 47 :: t) (by rw [e]; simp), fun c hc => h1.bare c (List.mem_append_left _ hc)⟩, ?_⟩
  rw [first_cut] at h2
  exact h2
theorem Proper.move {m n t : Bs} (hm : Proper m) (hn : Proper (n ++ 47 :: t)) (hl : (m ++ 47 :: t).length ≤ 60) : Proper (m ++ 47 :: t) := by
  obtain ⟨m1, m2⟩ := (proper_iff _).1 hm
  obtain ⟨n1, _⟩ := (proper_iff _).1 hn
  obtain ⟨_, r1, r2⟩ := right_cut n1.right
  refine (proper_iff _).2 ⟨⟨right_join m1.right r1 r2 hl, fun u e => ?_, fun u e => ?_, fun x y e => ?_, fun c hc => ?_⟩, by rw [first_cut]; exact m2⟩
  · cases m with
    | nil => have := (hright_len m1.right).2; exact this rfl
    | cons x r =>
      simp only [List.cons_append, List.cons.injEq] at e
      exact m1.head r (by rw [e.1])
  · rcases List.eq_nil_or_concat t with rfl | ⟨v, c, rfl⟩
    · exact n1.last n rfl
    · rw [List.concat_eq_append] at *
      have e' : (m ++ 47 :: v) ++ [c] = u ++ [47] := by rw [← e]; simp
      obtain ⟨_, hc⟩ := List.append_inj' e' rfl
      have hc : c = 47 := by simpa using hc
      exact n1.last (n ++ 47 :: v) (by rw [hc]; simp)
  · rcases List.append_eq_append_iff.1 e with ⟨a', h1, h2⟩ | ⟨c', h1, h2⟩
    · exact n1.two (n ++ a') y (by rw [h2]; simp)
    · match c', h1, h2 with
      | [], h1, h2 =>
        simp only [List.nil_append, List.cons.injEq, true_and] at h2
        exact n1.two n y (by rw [← h2])
      | [c], h1, h2 =>
        simp only [List.cons_append, List.nil_append, List.cons.injEq] at h2
        exact m1.last x (by rw [h1, ← h2.1])
      | c :: d :: r, h1, h2 =>
        simp only [List.cons_append, List.cons.injEq] at h2
        exact m1.two x r (by rw [h1, ← h2.1, ← h2.2.1])
  · rcases List.mem_append.1 hc with hc | hc
    · exact m1.bare c hc
    · exact n1.bare c (List.mem_append_right _ hc)
end Go.Proofs.YtdlfbhbgemoelaaGreatDoor
namespace Go.Proofs.YtdlfbhbgemoelaaGreatDoor

def Up (L : List Bs) : Prop := ∀ a t, a ++ 47 :: t ∈ L → a ∈ L
theorem above_iff {L : List Bs} {n x : Bs} : x ∈ haboveF L n ↔ (∃ t, n = x ++ 47 :: t) ∧ x ∉ L := by
  constructor
  · intro h
    obtain ⟨i, h1, h2, rfl, h4⟩ := above_mem h
    refine ⟨⟨n.drop (i + 1), ?_⟩, h4⟩
    have : n.drop i = 47 :: n.drop (i + 1) := by
      rw [List.drop_eq_getElem_cons h1]
      rw [List.getD_eq_getElem?_getD, List.getElem?_eq_getElem h1] at h2
      have h2 : n[i] = 47 := by simpa using h2
      rw [h2]
    rw [← this, List.take_append_drop]
  · rintro ⟨⟨t, rfl⟩, hx⟩
    unfold haboveF haboveK
    refine List.mem_map.2 ⟨x.length, List.mem_filter.2 ⟨List.mem_range.2 (by simp), ?_⟩, by simp⟩
    have e1 : (x ++ 47 :: t).getD x.length 0 = 47 := by simp [List.getD_eq_getElem?_getD]
    have e2 : (x ++ 47 :: t).take x.length = x := by simp
    rw [e1, e2]
    simp [hx]
structure Good (p : HouP) : Prop where
  sorts : Sorts p.L
  right : ∀ x ∈ p.L, rightB (p.c x) = true
  low : ∀ x ∈ p.L, (p.c x).valid < p.next
  inj : ∀ x ∈ p.L, ∀ y ∈ p.L, (p.c x).valid = (p.c y).valid → x = y
  one : 1 ≤ p.next
structure Named (p : HouP) : Prop where
  sorts : Sorts p.W
  name : ∀ n ∈ p.L, Proper n
  want : ∀ n ∈ p.W, Proper n
  inbox : inboxB ∈ p.L
  up : Up p.L
theorem right_new {n : Int} (h1 : 1 ≤ n) (h2 : n ≤ maxN) : rightB ⟨n, 1, []⟩ = true := by
  unfold rightB numB boxRL maxN at *
  simp only [Bool.and_eq_true, decide_eq_true_eq]
  exact ⟨⟨⟨trivial, h1, h2⟩, by decide, by decide⟩, by decide⟩
theorem Good.mk1 {p : HouP} (h : Good p) {s : Bs} (hs : s ∉ p.L) (hn : p.next ≤ maxN) : Good (mkP p s) := by
  have hm : ∀ {x}, x ∈ (mkP p s).L → x ≠ s → x ∈ p.L := fun hx e => (mem_insS.1 hx).resolve_left e
  have hc : ∀ x, x ≠ s → (mkP p s).c x = p.c x := fun x e => if_neg e
  have hc' : (mkP p s).c s = ⟨p.next, 1, []⟩ := if_pos rfl
  refine ⟨h.sorts.ins, fun x hx => ?_, fun x hx => ?_, fun x hx y hy e => ?_, by show 1 ≤ p.next + 1; have := h.one; omega⟩
  · by_cases e : x = s
    · rw [e, hc']; exact right_new h.one hn
    · rw [hc x e]; exact h.right x (hm hx e)
  · show ((mkP p s).c x).valid < p.next + 1
    by_cases e : x = s
    · rw [e, hc']; show p.next < p.next + 1; omega
    · rw [hc x e]; have := h.low x (hm hx e); omega
  · by_cases e1 : x = s <;> by_cases e2 : y = s
    · rw [e1, e2]
    · rw [e1, hc', hc y e2] at e
      have := h.low y (hm hy e2)
      have e : p.next = (p.c y).valid := e
      omega
    · rw [e2, hc', hc x e1] at e
      have := h.low x (hm hx e1)
      have e : (p.c x).valid = p.next := e
      omega
    · rw [hc x e1, hc y e2] at e
      exact h.inj x (hm hx e1) y (hm hy e2) e
theorem Good.mks : ∀ (l : List Bs) {p : HouP}, Good p → l.Nodup → (∀ x ∈ l, x ∉ p.L) → p.next + l.length ≤ maxN → Good (mkAllP p l)
  | [], _, h, _, _, _ => h
  | s :: l, p, h, hn, hf, hb => by
    obtain ⟨n1, n2⟩ := List.nodup_cons.1 hn
    have hb' : p.next + ((l.length + 1 : Nat) : Int) ≤ maxN := hb
    refine Good.mks l (h.mk1 (hf s (List.mem_cons_self ..)) (by omega)) n2 (fun x hx hm => ?_) (by show p.next + 1 + _ ≤ _; omega)
    rcases mem_insS.1 hm with e | e
    · exact n1 (e ▸ hx)
    · exact hf x (List.mem_cons_of_mem _ hx) e
theorem Good.move1 {p : HouP} (h : Good p) {s t : Bs} (hs : s ∈ p.L) (ht : t ∉ p.L) : Good (moveP p s t) := by
  have hm : ∀ {x}, x ∈ (moveP p s t).L → x ≠ t → x ∈ p.L ∧ x ≠ s := fun hx e => mem_delS.1 ((mem_insS.1 hx).resolve_left e)
  have hc : ∀ x, x ≠ t → (moveP p s t).c x = p.c x := fun x e => if_neg e
  have hc' : (moveP p s t).c t = p.c s := if_pos rfl
  refine ⟨h.sorts.del.ins, fun x hx => ?_, fun x hx => ?_, fun x hx y hy e => ?_, h.one⟩
  · by_cases e : x = t
    · rw [e, hc']; exact h.right s hs
    · rw [hc x e]; exact h.right x (hm hx e).1
  · show ((moveP p s t).c x).valid < p.next
    by_cases e : x = t
    · rw [e, hc']; exact h.low s hs
    · rw [hc x e]; exact h.low x (hm hx e).1
  · by_cases e1 : x = t <;> by_cases e2 : y = t
    · rw [e1, e2]
    · rw [e1, hc', hc y e2] at e
      exact absurd (h.inj s hs y (hm hy e2).1 e).symm (hm hy e2).2
    · rw [e2, hc', hc x e1] at e
      exact absurd (h.inj x (hm hx e1).1 s hs e) (hm hx e1).2
    · rw [hc x e1, hc y e2] at e
      exact h.inj x (hm hx e1).1 y (hm hy e2).1 e
theorem Good.moves (n m : Bs) : ∀ (l : List Bs) {p : HouP}, Good p → l.Nodup → (∀ s ∈ l, s ∈ p.L) → (∀ s ∈ l, m ++ s.drop n.length ∉ p.L) → (∀ s ∈ l, ∀ u ∈ l, m ++ s.drop n.length = m ++ u.drop n.length → s = u) → Good (moveAllP p n m l)
  | [], _, h, _, _, _, _ => h
  | s :: l, p, h, hn, hl, hf, hi => by
    obtain ⟨n1, n2⟩ := List.nodup_cons.1 hn
    have hs := List.mem_cons_self (a := s) (l := l)
    refine Good.moves n m l (h.move1 (hl s hs) (hf s hs)) n2 (fun u hu => mem_insS.2 (Or.inr (mem_delS.2 ⟨hl u (List.mem_cons_of_mem _ hu), fun e => n1 (e ▸ hu)⟩))) (fun u hu hm => ?_) (fun a ha b hb => hi a (List.mem_cons_of_mem _ ha) b (List.mem_cons_of_mem _ hb))
    rcases mem_insS.1 hm with e | e
    · exact n1 ((hi s hs u (List.mem_cons_of_mem _ hu) e.symm) ▸ hu)
    · exact hf u (List.mem_cons_of_mem _ hu) (mem_delS.1 e).1
theorem mem_moveLs (n m : Bs) {x : Bs} : ∀ (l L : List Bs), (∀ s ∈ l, ∀ u ∈ l, m ++ s.drop n.length ≠ u) → (x ∈ moveLs n m L l ↔ (x ∈ L ∧ x ∉ l) ∨ ∃ s ∈ l, x = m ++ s.drop n.length)
  | [], L, _ => by simp [moveLs]
  | s :: l, L, h => by
    have hs := List.mem_cons_self (a := s) (l := l)
    show x ∈ moveLs n m (insS (m ++ s.drop n.length) (delS s L)) l ↔ _
    rw [mem_moveLs n m l _ (fun a ha b hb => h a (List.mem_cons_of_mem _ ha) b (List.mem_cons_of_mem _ hb)), mem_insS, mem_delS]
    constructor
    · rintro (⟨e | ⟨e1, e2⟩, e3⟩ | ⟨u, hu, e⟩)
      · exact Or.inr ⟨s, hs, e⟩
      · exact Or.inl ⟨e1, fun hm => (List.mem_cons.1 hm).elim e2 e3⟩
      · exact Or.inr ⟨u, List.mem_cons_of_mem _ hu, e⟩
    · rintro (⟨e1, e2⟩ | ⟨u, hu, e⟩)
      · exact Or.inl ⟨Or.inr ⟨e1, fun e => e2 (e ▸ hs)⟩, fun hm => e2 (List.mem_cons_of_mem _ hm)⟩
      · rcases List.mem_cons.1 hu with rfl | hu
        · exact Or.inl ⟨Or.inl e, fun hm => h u hs x (List.mem_cons_of_mem _ hm) e.symm⟩
        · exact Or.inr ⟨u, hu, e⟩
theorem more_inr {L : List Bs} {n m : Bs} {q : Bs × Bs} (h : moreF L n m = .inr q) : m ∉ L ∧ (∀ t, m ≠ n ++ 47 :: t) ∧ (∀ s ∈ hinsideF L n, s.length - n.length + m.length ≤ 60) ∧ L.length + (haboveF L m).length ≤ 30 := by
  unfold moreF at h
  split at h
  · cases h
  · rename_i h1
    split at h
    · cases h
    · rename_i h2
      split at h
      · cases h
      · rename_i h3
        split at h
        · cases h
        · rename_i h4
          refine ⟨h1, fun t e => h2 ?_, fun s hs => ?_, by omega⟩
          · unfold Lib.hasPrefix
            rw [List.isPrefixOf_iff_prefix]
            exact ⟨t, by rw [e]; simp⟩
          · simp only [List.any_eq_true, decide_eq_true_eq, not_exists, not_and] at h3
            have := h3 s hs
            omega
theorem inside_iff {L : List Bs} {n x : Bs} : x ∈ hinsideF L n ++ [n] ↔ (∃ t, x = n ++ 47 :: t ∧ x ∈ L) ∨ x = n := by
  rw [List.mem_append, List.mem_singleton]
  constructor
  · rintro (h | h)
    · obtain ⟨h1, r, h2⟩ := inside_mem h
      exact Or.inl ⟨r, h2, h1⟩
    · exact Or.inr h
  · rintro (⟨t, e, h⟩ | h)
    · refine Or.inl ?_
      unfold hinsideF Lib.hasPrefix
      rw [List.mem_filter, List.isPrefixOf_iff_prefix]
      exact ⟨h, t, by rw [e]; simp⟩
    · exact Or.inr h
/-- what is called otherwise, where no name is in the way -/
theorem moved_iff {p : HouP} {n m : Bs} (hg : Good p) (hu : Up p.L) (hn : n ∈ p.L) (hm : m ∉ p.L) {x : Bs} :
    (∀ s ∈ hinsideF p.L n ++ [n], m ++ s.drop n.length ∉ p.L) ∧ (x ∈ moveLs n m p.L (hinsideF p.L n ++ [n]) ↔ (x ∈ p.L ∧ x ≠ n ∧ ∀ t, x ≠ n ++ 47 :: t) ∨ x = m ∨ ∃ t, n ++ 47 :: t ∈ p.L ∧ x = m ++ 47 :: t) := by
  have hd : ∀ t, (n ++ 47 :: t).drop n.length = 47 :: t := fun t => List.drop_left
  have hdn : n.drop n.length = [] := List.drop_length
  have hno : ∀ s ∈ hinsideF p.L n ++ [n], m ++ s.drop n.length ∉ p.L := by
    intro s hs
    rcases inside_iff.1 hs with ⟨t, rfl, _⟩ | rfl
    · rw [hd]; exact fun h => hm (hu m t h)
    · rw [hdn, List.append_nil]; exact hm
  have hsub : ∀ s ∈ hinsideF p.L n ++ [n], s ∈ p.L := by
    intro s hs
    rcases inside_iff.1 hs with ⟨t, rfl, h⟩ | rfl
    · exact h
    · exact hn
  refine ⟨hno, ?_⟩
  rw [mem_moveLs n m _ _ (fun s hs u hu' e => hno s hs (e ▸ hsub u hu'))]
  constructor
  · rintro (⟨h1, h2⟩ | ⟨s, hs, rfl⟩)
    · exact Or.inl ⟨h1, fun e => h2 (inside_iff.2 (Or.inr e)), fun t e => h2 (inside_iff.2 (Or.inl ⟨t, e, h1⟩))⟩
    · rcases inside_iff.1 hs with ⟨t, rfl, h⟩ | rfl
      · rw [hd]; exact Or.inr (Or.inr ⟨t, h, rfl⟩)
      · rw [hdn, List.append_nil]; exact Or.inr (Or.inl rfl)
  · rintro (⟨h1, h2, h3⟩ | rfl | ⟨t, h, rfl⟩)
    · refine Or.inl ⟨h1, fun hs => ?_⟩
      rcases inside_iff.1 hs with ⟨t, e, _⟩ | e
      · exact h3 t e
      · exact h2 e
    · exact Or.inr ⟨n, inside_iff.2 (Or.inr rfl), by rw [hdn, List.append_nil]⟩
    · exact Or.inr ⟨n ++ 47 :: t, inside_iff.2 (Or.inl ⟨t, rfl, h⟩), by rw [hd]⟩
theorem moves_inj {L : List Bs} {n m : Bs} : ∀ s ∈ hinsideF L n ++ [n], ∀ u ∈ hinsideF L n ++ [n], m ++ s.drop n.length = m ++ u.drop n.length → s = u := by
  intro s hs u hu e
  have e := List.append_cancel_left e
  have hd : ∀ t, (n ++ 47 :: t).drop n.length = 47 :: t := fun t => List.drop_left
  have hdn : n.drop n.length = [] := List.drop_length
  rcases inside_iff.1 hs with ⟨t, rfl, _⟩ | rfl <;> rcases inside_iff.1 hu with ⟨t', rfl, _⟩ | rfl
  · rw [hd, hd] at e; rw [e]
  · rw [hd, hdn] at e; cases e
  · rw [hd, hdn] at e; cases e
  · rfl
/-- what holds of a house -/
structure Full (p : HouP) (B : Int) : Prop where
  good : Good p
  named : Named p
  inb : InB p B
theorem Full.mono {p : HouP} {B B' : Int} (h : Full p B) (hB : B ≤ B') : Full p B' := ⟨h.good, h.named, h.inb.mono hB⟩
theorem Up.made {L : List Bs} {n : Bs} (hu : Up L) : Up (insAll L (haboveF L n ++ [n])) := by
  intro a t h
  rw [mem_insAll] at h ⊢
  have hk : ∀ u, n = a ++ 47 :: u → a ∈ L ∨ a ∈ haboveF L n ++ [n] := fun u e => by
    by_cases ha : a ∈ L
    · exact Or.inl ha
    · exact Or.inr (List.mem_append_left _ (above_iff.2 ⟨⟨u, e⟩, ha⟩))
  rcases h with h | h
  · exact Or.inl (hu a t h)
  · rcases List.mem_append.1 h with h | h
    · obtain ⟨⟨u, e⟩, _⟩ := above_iff.1 h
      exact hk (t ++ 47 :: u) (by rw [e]; simp)
    · rw [List.mem_singleton] at h
      exact hk t h.symm
theorem proper_above {L : List Bs} {n x : Bs} (hn : Proper n) (h : x ∈ haboveF L n) : Proper x := by
  obtain ⟨⟨t, e⟩, _⟩ := above_iff.1 h
  exact Proper.up (t := t) (e ▸ hn)
theorem Named.made {p : HouP} {n : Bs} (h : Named p) (hn : Proper n) : Named (mkAllP p (haboveF p.L n ++ [n])) := by
  obtain ⟨e1, e2, _⟩ := mkAllP_L (haboveF p.L n ++ [n]) p
  refine ⟨by rw [e2]; exact h.sorts, fun x hx => ?_, by rw [e2]; exact h.want, by rw [e1, mem_insAll]; exact Or.inl h.inbox, by rw [e1]; exact h.up.made⟩
  rw [e1, mem_insAll] at hx
  rcases hx with hx | hx
  · exact h.name x hx
  · rcases List.mem_append.1 hx with hx | hx
    · exact proper_above hn hx
    · rw [List.mem_singleton] at hx; exact hx ▸ hn
theorem full_create {p : HouP} {B : Int} (h : Full p B) (hB : B + 31 ≤ maxN) {s : Bs} {l : List Bs} (hc : hcreateF p.L s = .inr l) : Good (mkAllP p l) ∧ Named (mkAllP p l) := by
  obtain ⟨n, h1, h2, h3, rfl⟩ := create_inr hc
  have hf := made_fresh h2
  have hhi := h.inb.hi
  refine ⟨h.good.mks _ hf.1 (fun x hx => (hf.2 x hx).1) ?_, h.named.made (name_again h1)⟩
  rw [List.length_append, List.length_singleton]
  omega
theorem right_parts {b : BoxP} (h : rightB b = true) : boxRL b.next 0 b.ls = true ∧ (1 ≤ b.valid ∧ b.valid ≤ maxN) ∧ (1 ≤ b.next ∧ b.next ≤ maxN) ∧ b.ls.length ≤ 60 := by
  unfold rightB numB at h
  simp only [Bool.and_eq_true, decide_eq_true_eq] at h
  exact ⟨h.1.1.1, h.1.1.2, h.1.2, h.2⟩
theorem right_make {b : BoxP} (h1 : boxRL b.next 0 b.ls = true) (h2 : 1 ≤ b.valid ∧ b.valid ≤ maxN) (h3 : 1 ≤ b.next ∧ b.next ≤ maxN) (h4 : b.ls.length ≤ 60) : rightB b = true := by
  unfold rightB numB
  simp only [Bool.and_eq_true, decide_eq_true_eq]
  exact ⟨⟨⟨h1, h2⟩, h3⟩, h4⟩
theorem Good.boxes {p q : HouP} (h : Good p) (e1 : q.L = p.L) (e2 : q.next = p.next) (hv : ∀ x ∈ p.L, (q.c x).valid = (p.c x).valid) (hr : ∀ x ∈ p.L, rightB (q.c x) = true) : Good q :=
  ⟨e1 ▸ h.sorts, fun x hx => hr x (e1 ▸ hx), fun x hx => by rw [hv x (e1 ▸ hx), e2]; exact h.low x (e1 ▸ hx), fun x hx y hy e => h.inj x (e1 ▸ hx) y (e1 ▸ hy) (by rw [← hv x (e1 ▸ hx), ← hv y (e1 ▸ hy)]; exact e), e2 ▸ h.one⟩
theorem Good.inbox {p : HouP} (h : Good p) {m : Bs} (hm : m ∈ p.L) (hi : inboxB ∈ p.L) : Good (inboxP p m) := by
  have hM := right_parts (h.right m hm)
  have hI := right_parts (h.right inboxB hi)
  refine h.boxes rfl rfl (fun x hx => ?_) (fun x hx => ?_)
  · show (updP (updP p.c m _) inboxB _ x).valid = _
    unfold updP
    split
    · rename_i e; rw [e]
    · split
      · rename_i e; rw [e]
      · rfl
  · show rightB (updP (updP p.c m _) inboxB _ x) = true
    unfold updP
    split
    · exact right_make rfl hI.2.1 hI.2.2.1 (Nat.zero_le _)
    · split
      · exact right_make hI.1 hM.2.1 hI.2.2.1 hI.2.2.2
      · exact h.right x hx
theorem Named.same {p q : HouP} (h : Named p) (e1 : q.L = p.L) (e2 : q.W = p.W) : Named q := ⟨e2 ▸ h.sorts, e1 ▸ h.name, e2 ▸ h.want, e1 ▸ h.inbox, e1 ▸ h.up⟩
end Go.Proofs.YtdlfbhbgemoelaaGreatDoor
namespace Go.Proofs.YtdlfbhbgemoelaaGreatDoor

theorem full_delete {p : HouP} {B : Int} (h : Full p B) {s n : Bs} (hc : hdeleteF p.L s = .inr n) : Good { p with L := delS n p.L } ∧ Named { p with L := delS n p.L } := by
  unfold hdeleteF at hc
  split at hc
  · cases hc
  · rename_i n' hg
    split at hc
    · cases hc
    · rename_i hno
      cases hc
      have hni : n ≠ inboxB := fun e => hno (Or.inl e)
      have hin : hinsideF p.L n = [] := by
        cases e : hinsideF p.L n with
        | nil => rfl
        | cons a b => exact absurd (Or.inr (by rw [e]; simp)) hno
      have hsub : ∀ x, x ∈ delS n p.L → x ∈ p.L := fun x hx => (mem_delS.1 hx).1
      refine ⟨⟨h.good.sorts.del, fun x hx => h.good.right x (hsub x hx), fun x hx => h.good.low x (hsub x hx), fun x hx y hy => h.good.inj x (hsub x hx) y (hsub y hy), h.good.one⟩, ⟨h.named.sorts, fun x hx => h.named.name x (hsub x hx), h.named.want, mem_delS.2 ⟨h.named.inbox, fun e => hni e.symm⟩, fun a t ha => mem_delS.2 ⟨h.named.up a t (hsub _ ha), fun e => ?_⟩⟩⟩
      have : a ++ 47 :: t ∈ hinsideF p.L n := by
        unfold hinsideF Lib.hasPrefix
        rw [List.mem_filter, List.isPrefixOf_iff_prefix]
        exact ⟨hsub _ ha, t, by rw [e]; simp⟩
      rw [hin] at this
      cases this
/-- two ways in which a name has a / -/
theorem slash_cut {m r a t : Bs} (e : m ++ 47 :: r = a ++ 47 :: t) : (∃ u, m = a ++ 47 :: u) ∨ (a = m ∧ r = t) ∨ ∃ u, a = m ++ 47 :: u ∧ r = u ++ 47 :: t := by
  rcases List.append_eq_append_iff.1 e with ⟨a', h1, h2⟩ | ⟨c', h1, h2⟩
  · cases a' with
    | nil =>
      simp only [List.nil_append, List.cons.injEq, true_and] at h2
      exact Or.inr (Or.inl ⟨by rw [h1, List.append_nil], h2⟩)
    | cons c a' =>
      simp only [List.cons_append, List.cons.injEq] at h2
      exact Or.inr (Or.inr ⟨a', by rw [h1, ← h2.1], h2.2⟩)
  · cases c' with
    | nil =>
      simp only [List.nil_append, List.cons.injEq, true_and] at h2
      exact Or.inr (Or.inl ⟨by rw [h1, List.append_nil], h2.symm⟩)
    | cons c c' =>
      simp only [List.cons_append, List.cons.injEq] at h2
      exact Or.inl ⟨c', by rw [h1, ← h2.1]⟩
theorem app_valid (b : BoxP) (l : List (List UInt8)) (d : Int) (t : List UInt8) : (appB b l d t).2.valid = b.valid := by
  unfold appB
  repeat' split
  all_goals rfl
theorem full_rename {p : HouP} {B : Int} (h : Full p B) (hB : B + 31 ≤ maxN) {n m : Bs} {q : Bs × Bs} (hn : n ∈ p.L) (hni : n ≠ inboxB) (hpm : Proper m) (hm : moreF p.L n m = .inr q) :
    Good (mkAllP (moveAllP p n m (hinsideF p.L n ++ [n])) (haboveF p.L m)) ∧ Named (mkAllP (moveAllP p n m (hinsideF p.L n ++ [n])) (haboveF p.L m)) := by
  obtain ⟨m1, m2, m3, m4⟩ := more_inr hm
  have hmv := fun x => moved_iff (x := x) h.good h.named.up hn m1
  obtain ⟨e1, e2, e3⟩ := moveAllP_L n m (hinsideF p.L n ++ [n]) p
  obtain ⟨f1, f2, _⟩ := mkAllP_L (haboveF p.L m) (moveAllP p n m (hinsideF p.L n ++ [n]))
  have hsub : ∀ s ∈ hinsideF p.L n ++ [n], s ∈ p.L := fun s hs => by
    rcases inside_iff.1 hs with ⟨_, _, h⟩ | e
    · exact h
    · exact e ▸ hn
  have g1 := h.good.moves n m _ (inside_fresh h.good.sorts n) hsub (hmv m).1 moves_inj
  have hab : ∀ x ∈ haboveF p.L m, x ∉ moveLs n m p.L (hinsideF p.L n ++ [n]) := fun x hx hx2 => by
    obtain ⟨⟨t, e⟩, hxL⟩ := above_iff.1 hx
    have hlen : x.length < m.length := by rw [e, List.length_append, List.length_cons]; omega
    rcases (hmv x).2.1 hx2 with ⟨h1, _⟩ | rfl | ⟨u, _, rfl⟩
    · exact hxL h1
    · omega
    · rw [List.length_append] at hlen; omega
  have hhi := h.inb.hi
  have hmany := h.inb.many
  refine ⟨g1.mks _ (above_nodup _ _) (fun x hx => by rw [e1]; exact hab x hx) (by rw [e3]; omega), ?_⟩
  refine ⟨by rw [f2, e2]; exact h.named.sorts, fun x hx => ?_, by rw [f2, e2]; exact h.named.want, ?_, ?_⟩
  · rw [f1, mem_insAll, e1] at hx
    rcases hx with hx | hx
    · rcases (hmv x).2.1 hx with ⟨h1, _⟩ | rfl | ⟨t, ht, rfl⟩
      · exact h.named.name x h1
      · exact hpm
      · refine Proper.move hpm (h.named.name _ ht) ?_
        have := m3 (n ++ 47 :: t) (by
          unfold hinsideF Lib.hasPrefix
          rw [List.mem_filter, List.isPrefixOf_iff_prefix]
          exact ⟨ht, t, by simp⟩)
        simp only [List.length_append, List.length_cons] at this ⊢
        omega
    · exact proper_above hpm hx
  · rw [f1, mem_insAll, e1]
    refine Or.inl ((hmv inboxB).2.2 (Or.inl ⟨h.named.inbox, fun e => hni e.symm, fun t e => ?_⟩))
    have : (47 : UInt8) ∈ inboxB := by rw [e]; simp
    exact absurd this (by decide)
  · rw [f1, e1]
    -- what lies ahead of a / in the new name
    have hk : ∀ a u, m = a ++ 47 :: u → a ∈ insAll (moveLs n m p.L (hinsideF p.L n ++ [n])) (haboveF p.L m) := fun a u e => by
      rw [mem_insAll]
      by_cases ha : a ∈ p.L
      · refine Or.inl ((hmv a).2.2 (Or.inl ⟨ha, fun e' => m2 u (by rw [e, e']), fun t e' => m2 (t ++ 47 :: u) (by rw [e, e']; simp)⟩))
      · exact Or.inr (above_iff.2 ⟨⟨u, e⟩, ha⟩)
    intro a t hx
    rw [mem_insAll] at hx
    rcases hx with hx | hx
    · rcases (hmv _).2.1 hx with ⟨h1, h2, h3⟩ | e | ⟨r, hr, e⟩
      · refine mem_insAll.2 (Or.inl ((hmv a).2.2 (Or.inl ⟨h.named.up a t h1, fun e => h3 t (by rw [e]), fun u e => h3 (u ++ 47 :: t) (by rw [e]; simp)⟩)))
      · exact hk a t e.symm
      · rcases slash_cut e.symm with ⟨u, e'⟩ | ⟨rfl, _⟩ | ⟨u, rfl, rfl⟩
        · exact hk a u e'
        · exact mem_insAll.2 (Or.inl ((hmv _).2.2 (Or.inr (Or.inl rfl))))
        · refine mem_insAll.2 (Or.inl ((hmv _).2.2 (Or.inr (Or.inr ⟨u, h.named.up (n ++ 47 :: u) t (by simpa using hr), rfl⟩))))
    · obtain ⟨⟨u, e⟩, _⟩ := above_iff.1 hx
      exact hk a (t ++ 47 :: u) (by rw [e]; simp)
theorem Full.deed {p : HouP} {B : Int} (h : Full p B) (hB : B + 31 ≤ maxN) (x : DeedP) : Full (deedP p x).2 (B + 31) := by
  refine (fun (h' : Good (deedP p x).2 ∧ Named (deedP p x).2) => ⟨h'.1, h'.2, h.inb.deed h.good.sorts h.named.sorts x⟩) ?_
  have hm : Good p ∧ Named p := ⟨h.good, h.named⟩
  unfold deedP
  split
  · unfold createP
    cases hc : hcreateF p.L x.s with
    | inl k => exact hm
    | inr l => exact full_create h hB hc
  split
  · unfold deleteP
    cases hc : hdeleteF p.L x.s with
    | inl k => exact hm
    | inr n => exact full_delete h hc
  split
  · unfold renameP
    cases hg : hgetF p.L x.s with
    | inl k => exact hm
    | inr n =>
      have hgn : n ∈ p.L := by
        unfold hgetF at hg
        split at hg
        · cases hg
        · split at hg
          · cases hg; assumption
          · cases hg
      cases hn : hnameF x.t with
      | none => exact hm
      | some m =>
        have hpm : Proper m := name_again hn
        by_cases hi : n = inboxB
        · simp only [if_pos hi]
          cases hc : hcreateF p.L m with
          | inl k => exact hm
          | inr l =>
            obtain ⟨g1, g2⟩ := full_create h hB hc
            obtain ⟨m', q1, q2, q3, rfl⟩ := create_inr hc
            have hmm : m' = m := Option.some.inj (q1.symm.trans hpm)
            subst hmm
            refine ⟨g1.inbox ?_ g2.inbox, g2.same rfl rfl⟩
            rw [(mkAllP_L _ _).1, mem_insAll]
            simp
        · simp only [if_neg hi]
          cases hc : moreF p.L n m with
          | inl k => exact hm
          | inr q => exact full_rename h hB hgn hi hpm hc
  split
  · unfold wantP hwantF
    cases hn : hnameF x.s with
    | none => exact hm
    | some n =>
      have hp : Proper n := name_again hn
      cases x.yes with
      | false =>
        by_cases hW : n ∈ p.W
        · simp only [hW, if_true]
          exact ⟨h.good.boxes rfl rfl (fun _ _ => rfl) h.good.right, ⟨h.named.sorts.del, h.named.name, fun y hy => h.named.want y (mem_delS.1 hy).1, h.named.inbox, h.named.up⟩⟩
        · simp only [hW, if_true, if_false]
          exact hm
      | true =>
        by_cases hW : 60 ≤ p.W.length ∧ n ∉ p.W
        · simp only [if_pos hW]
          exact hm
        · simp only [if_neg hW]
          refine ⟨h.good.boxes rfl rfl (fun _ _ => rfl) h.good.right, ⟨h.named.sorts.ins, h.named.name, fun y hy => ?_, h.named.inbox, h.named.up⟩⟩
          rcases mem_insS.1 hy with e | e
          · exact e ▸ hp
          · exact h.named.want y e
  split
  · unfold putP
    cases hg : hgetF p.L x.s with
    | inl k => exact hm
    | inr n =>
      show Good (match (appB (p.c n) [] 1 x.t).1 with
        | .inl k => (some k, p)
        | .inr _ => (none, { p with c := updP p.c n (appB (p.c n) [] 1 x.t).2 })).2 ∧ Named (match (appB (p.c n) [] 1 x.t).1 with
        | .inl k => (some k, p)
        | .inr _ => (none, { p with c := updP p.c n (appB (p.c n) [] 1 x.t).2 })).2
      have hv : (appB (p.c n) [] 1 x.t).2.valid = (p.c n).valid := app_valid _ _ _ _
      have hr := fun h => right_app (b := p.c n) h [] 1 x.t
      cases (appB (p.c n) [] 1 x.t).1 with
      | inl k => exact hm
      | inr k =>
        refine ⟨h.good.boxes rfl rfl (fun y hy => ?_) (fun y hy => ?_), h.named.same rfl rfl⟩
        · show (updP p.c n _ y).valid = _
          unfold updP
          split
          · rename_i e; rw [hv, e]
          · rfl
        · show rightB (updP p.c n _ y) = true
          unfold updP
          split
          · rename_i e; exact hr (e ▸ h.good.right y hy)
          · exact h.good.right y hy
  · exact hm
end Go.Proofs.YtdlfbhbgemoelaaGreatDoor
