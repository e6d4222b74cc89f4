/- Plain law of what is called otherwise: what is moved, and moved back. No program in sight. The walk over a house's Rename, not of INBOX: what it writes. Conditions: utf8's two tables and bytealg.MaxLen lie as the program's text lays them. The walk over the statement HouseMoves (under way: what the walk leans on). Conditions: utf8's two tables, bytealg.MaxLen, errors.errorType, flags.system, strconv's table of powers lie as the program's text lays them. The walk over the statement HouseMoves: it returns true. Conditions: utf8's two tables, bytealg.MaxLen, errors.errorType, flags.system, strconv's table of powers lie as the program's text lays them. -/
import Derived.Test.YtdlfbhbgemoelaaGreatDoorPHouse11
import Derived.Test.YtdlfbhbgemoelaaGreatDoorHouX
import Derived.Test.YtdlfbhbgemoelaaGreatDoorHouY
import Derived.Test.YtdlfbhbgemoelaaGreatDoorHouQ
import Derived.Test.YtdlfbhbgemoelaaGreatDoorHouJ
import Derived.Lib.LastIndexByte
import Derived.Lib.SlicesS
namespace Go.Proofs.YtdlfbhbgemoelaaGreatDoor

/-- which box a box of a house that was called otherwise is -/
theorem moves_c (n m : Bs) : ∀ (l : List Bs) (p : HouP), l.Nodup → (∀ s ∈ l, m ++ s.drop n.length ∉ p.L) → (∀ s ∈ l, s ∈ p.L) → (∀ s ∈ l, ∀ u ∈ l, m ++ s.drop n.length = m ++ u.drop n.length → s = u) →
    (∀ s ∈ l, (moveAllP p n m l).c (m ++ s.drop n.length) = p.c s) ∧ ∀ x, (∀ s ∈ l, x ≠ m ++ s.drop n.length) → (moveAllP p n m l).c x = p.c x
  | [], p, _, _, _, _ => ⟨(fun s hs => by cases hs), fun x _ => rfl⟩
  | s :: l, p, hn, hf, hl, hi => by
    obtain ⟨n1, n2⟩ := List.nodup_cons.1 hn
    have hs := List.mem_cons_self (a := s) (l := l)
    have hf2 : ∀ u ∈ l, m ++ u.drop n.length ∉ (moveP p s (m ++ s.drop n.length)).L := fun u hu hm => by
      rcases mem_insS.1 hm with e | e
      · exact n1 ((hi s hs u (List.mem_cons_of_mem _ hu) e.symm) ▸ hu)
      · exact hf u (List.mem_cons_of_mem _ hu) (mem_delS.1 e).1
    have hl2 : ∀ u ∈ l, u ∈ (moveP p s (m ++ s.drop n.length)).L := fun u hu => mem_insS.2 (Or.inr (mem_delS.2 ⟨hl u (List.mem_cons_of_mem _ hu), fun e => n1 (e ▸ hu)⟩))
    obtain ⟨i1, i2⟩ := moves_c n m l (moveP p s (m ++ s.drop n.length)) n2 hf2 hl2 (fun a ha b hb => hi a (List.mem_cons_of_mem _ ha) b (List.mem_cons_of_mem _ hb))
    have hc : ∀ x, x ≠ m ++ s.drop n.length → (moveP p s (m ++ s.drop n.length)).c x = p.c x := fun x e => if_neg e
    have hc' : (moveP p s (m ++ s.drop n.length)).c (m ++ s.drop n.length) = p.c s := if_pos rfl
    refine ⟨fun u hu => ?_, fun x hx => ?_⟩
    · rcases List.mem_cons.1 hu with rfl | hu'
      · show (moveAllP (moveP p u (m ++ u.drop n.length)) n m l).c _ = _
        rw [i2 _ (fun v hv e => n1 ((hi u hs v (List.mem_cons_of_mem _ hv) e) ▸ hv)), hc']
      · show (moveAllP (moveP p s (m ++ s.drop n.length)) n m l).c _ = _
        rw [i1 u hu']
        exact hc u (fun e => hf s hs (e ▸ hl u hu))
    · show (moveAllP (moveP p s (m ++ s.drop n.length)) n m l).c _ = _
      rw [i2 x (fun v hv => hx v (List.mem_cons_of_mem _ hv)), hc x (hx s hs)]
theorem drop_self' (n : Bs) : n.drop n.length = [] := List.drop_length
theorem drop_in (n t : Bs) : (n ++ 47 :: t).drop n.length = 47 :: t := List.drop_left
/-- a house that is called otherwise, where no box is made: what it is, and that it may be called back -/
theorem moved_back {p : HouP} {B : Int} {n m : Bs} {q0 : Bs × Bs} {q : HouP} (hF : Full p B) (hB : B + 31 ≤ maxN) (hn : n ∈ p.L) (hni : n ≠ inboxB) (hpm : Proper m) (hm : moreF p.L n m = .inr q0) (hab : haboveF p.L m = []) (hq : moveAllP p n m (hinsideF p.L n ++ [n]) = q) :
    Good q ∧ Named q ∧ q.L.length = p.L.length ∧ m ∈ q.L ∧ m ≠ inboxB ∧ haboveF q.L n = [] ∧ moreF q.L m n = .inr (m, n) ∧ (moveAllP q m n (hinsideF q.L m ++ [m])).L = p.L ∧ (∀ x ∈ p.L, (moveAllP q m n (hinsideF q.L m ++ [m])).c x = p.c x) ∧
      (q.c m = p.c n) ∧ (∀ t, n ++ 47 :: t ∈ p.L → m ++ 47 :: t ∈ q.L ∧ q.c (m ++ 47 :: t) = p.c (n ++ 47 :: t)) ∧ ∀ x ∈ p.L, x ≠ n → (∀ t, x ≠ n ++ 47 :: t) → x ∈ q.L ∧ q.c x = p.c x := by
  obtain ⟨m1, m2, m3, m4⟩ := more_inr hm
  have hg0 := full_rename hF hB hn hni hpm hm
  rw [hab, hq] at hg0
  obtain ⟨hgq, hnq⟩ : Good q ∧ Named q := hg0
  have hmv := fun x => moved_iff (x := x) hF.good hF.named.up hn m1
  have hL : q.L = moveLs n m p.L (hinsideF p.L n ++ [n]) := by rw [← hq]; exact (moveAllP_L n m _ p).1
  rw [← hL] at hmv
  have hsub : ∀ s ∈ hinsideF p.L n ++ [n], s ∈ p.L := fun s hs => by
    rcases inside_iff.1 hs with ⟨_, _, h⟩ | e
    · exact h
    · exact e ▸ hn
  have hmq : m ∈ q.L := (hmv m).2.2 (Or.inr (Or.inl rfl))
  have hnot : n ∉ q.L := fun h => by
    rcases (hmv n).2.1 h with ⟨_, h2, _⟩ | e | ⟨t, _, e⟩
    · exact h2 rfl
    · exact m1 (e ▸ hn)
    · exact m1 (hF.named.up m t (e ▸ hn))
  have hmi : m ≠ inboxB := fun e => m1 (e ▸ hF.named.inbox)
  have hmt : ∀ t, m ++ 47 :: t ∈ q.L → n ++ 47 :: t ∈ p.L := fun t h => by
    rcases (hmv _).2.1 h with ⟨h1, _, _⟩ | e | ⟨t', h', e⟩
    · exact absurd (hF.named.up m t h1) m1
    · have := congrArg List.length e
      simp at this
    · have e := List.append_cancel_left e
      simp only [List.cons.injEq, true_and] at e
      exact e ▸ h'
  have habn : haboveF q.L n = [] := List.eq_nil_iff_forall_not_mem.2 fun x hx => by
    obtain ⟨⟨t, e⟩, hxq⟩ := above_iff.1 hx
    have hxL : x ∈ p.L := hF.named.up x t (e ▸ hn)
    refine hxq ((hmv x).2.2 (Or.inl ⟨hxL, fun e' => ?_, fun u e' => ?_⟩))
    · have := congrArg List.length e
      rw [e'] at this
      simp at this
    · have := congrArg List.length e
      rw [e'] at this
      simp at this
  have hlen : q.L.length = p.L.length := by
    have h1 := (moveLs_len n m (hinsideF p.L n ++ [n]) p.L hF.good.sorts (inside_fresh hF.good.sorts n) hsub).1
    rw [← hL] at h1
    have hmv2 := fun x => moved_iff (x := x) hgq hnq.up hmq hnot
    have hsub2 : ∀ s ∈ hinsideF q.L m ++ [m], s ∈ q.L := fun s hs => by
      rcases inside_iff.1 hs with ⟨_, _, h⟩ | e
      · exact h
      · exact e ▸ hmq
    have h2 := (moveLs_len m n (hinsideF q.L m ++ [m]) q.L hgq.sorts (inside_fresh hgq.sorts m) hsub2)
    have h3 : moveLs m n q.L (hinsideF q.L m ++ [m]) = p.L := sorts_ext h2.2 hF.good.sorts (fun x => by
      rw [(hmv2 x).2]
      constructor
      · rintro (⟨h1, h2, h3⟩ | rfl | ⟨t, h, rfl⟩)
        · rcases (hmv x).2.1 h1 with ⟨h, _⟩ | e | ⟨t, _, e⟩
          · exact h
          · exact absurd e h2
          · exact absurd e (h3 t)
        · exact hn
        · exact hmt t h
      · intro hx
        by_cases e1 : x = n
        · exact Or.inr (Or.inl e1)
        · by_cases e2 : ∃ t, x = n ++ 47 :: t
          · obtain ⟨t, rfl⟩ := e2
            exact Or.inr (Or.inr ⟨t, (hmv _).2.2 (Or.inr (Or.inr ⟨t, hx, rfl⟩)), rfl⟩)
          · exact Or.inl ⟨(hmv x).2.2 (Or.inl ⟨hx, e1, fun t e => e2 ⟨t, e⟩⟩), fun e => m1 (e ▸ hx), fun t e => m1 (hF.named.up m t (e ▸ hx))⟩)
    have h4 := h2.1
    rw [h3] at h4
    omega
  have hmv2 := fun x => moved_iff (x := x) hgq hnq.up hmq hnot
  have hback : (moveAllP q m n (hinsideF q.L m ++ [m])).L = p.L := by
    rw [(moveAllP_L m n _ q).1]
    have hsub2 : ∀ s ∈ hinsideF q.L m ++ [m], s ∈ q.L := fun s hs => by
      rcases inside_iff.1 hs with ⟨_, _, h⟩ | e
      · exact h
      · exact e ▸ hmq
    have h2 := (moveLs_len m n (hinsideF q.L m ++ [m]) q.L hgq.sorts (inside_fresh hgq.sorts m) hsub2)
    refine sorts_ext h2.2 hF.good.sorts (fun x => ?_)
    rw [(hmv2 x).2]
    constructor
    · rintro (⟨h1, h2, h3⟩ | rfl | ⟨t, h, rfl⟩)
      · rcases (hmv x).2.1 h1 with ⟨h, _⟩ | e | ⟨t, _, e⟩
        · exact h
        · exact absurd e h2
        · exact absurd e (h3 t)
      · exact hn
      · exact hmt t h
    · intro hx
      by_cases e1 : x = n
      · exact Or.inr (Or.inl e1)
      · by_cases e2 : ∃ t, x = n ++ 47 :: t
        · obtain ⟨t, rfl⟩ := e2
          exact Or.inr (Or.inr ⟨t, (hmv _).2.2 (Or.inr (Or.inr ⟨t, hx, rfl⟩)), rfl⟩)
        · exact Or.inl ⟨(hmv x).2.2 (Or.inl ⟨hx, e1, fun t e => e2 ⟨t, e⟩⟩), fun e => m1 (e ▸ hx), fun t e => m1 (hF.named.up m t (e ▸ hx))⟩
  have hmem_n : ∀ {t}, n ++ 47 :: t ∈ p.L → n ++ 47 :: t ∈ hinsideF p.L n ++ [n] := fun {t} h => inside_iff.2 (Or.inl ⟨t, rfl, h⟩)
  have hmem_m : ∀ {t}, m ++ 47 :: t ∈ q.L → m ++ 47 :: t ∈ hinsideF q.L m ++ [m] := fun {t} h => inside_iff.2 (Or.inl ⟨t, rfl, h⟩)
  have hc1 := moves_c n m (hinsideF p.L n ++ [n]) p (inside_fresh hF.good.sorts n) (hmv m).1 hsub moves_inj
  rw [hq] at hc1
  have hsub2 : ∀ s ∈ hinsideF q.L m ++ [m], s ∈ q.L := fun s hs => by
    rcases inside_iff.1 hs with ⟨_, _, h⟩ | e
    · exact h
    · exact e ▸ hmq
  have hc2 := moves_c m n (hinsideF q.L m ++ [m]) q (inside_fresh hgq.sorts m) (hmv2 m).1 hsub2 moves_inj
  have q1 : q.c m = p.c n := by
    have := hc1.1 n (inside_iff.2 (Or.inr rfl))
    rwa [drop_self', List.append_nil] at this
  have q2 : ∀ t, n ++ 47 :: t ∈ p.L → m ++ 47 :: t ∈ q.L ∧ q.c (m ++ 47 :: t) = p.c (n ++ 47 :: t) := fun t h => by
    refine ⟨(hmv _).2.2 (Or.inr (Or.inr ⟨t, h, rfl⟩)), ?_⟩
    have := hc1.1 _ (hmem_n h)
    rwa [drop_in] at this
  have q3 : ∀ x ∈ p.L, x ≠ n → (∀ t, x ≠ n ++ 47 :: t) → x ∈ q.L ∧ q.c x = p.c x := fun x hx e1 e2 => by
    refine ⟨(hmv x).2.2 (Or.inl ⟨hx, e1, e2⟩), hc1.2 x (fun s hs e => (hmv m).1 s hs (e ▸ hx))⟩
  refine ⟨hgq, hnq, hlen, hmq, hmi, habn, ?_, hback, fun x hx => ?_, q1, q2, q3⟩
  · unfold moreF
    rw [if_neg hnot, if_neg, if_neg, if_neg]
    · rw [habn, hlen]
      have := hF.inb.many
      simp only [List.length_nil]
      omega
    · intro h
      simp only [List.any_eq_true, decide_eq_true_eq] at h
      obtain ⟨s, hs, hl⟩ := h
      obtain ⟨hsq, t, rfl⟩ := inside_mem hs
      have h60 := (hnameF_len (hF.named.name _ (hmt t hsq))).1
      simp only [List.length_append, List.length_cons] at hl h60
      omega
    · intro h
      unfold Lib.hasPrefix at h
      rw [List.isPrefixOf_iff_prefix] at h
      obtain ⟨t, e⟩ := h
      exact m1 (hF.named.up m t (by rw [show m ++ 47 :: t = n by rw [← e]; simp]; exact hn))
  · by_cases e1 : x = n
    · subst e1
      have := hc2.1 m (inside_iff.2 (Or.inr rfl))
      rw [drop_self', List.append_nil] at this
      rw [this, q1]
    · by_cases e2 : ∃ t, x = n ++ 47 :: t
      · obtain ⟨t, rfl⟩ := e2
        obtain ⟨h1, h2⟩ := q2 t hx
        have := hc2.1 _ (hmem_m h1)
        rw [drop_in] at this
        rw [this, h2]
      · have e2' : ∀ t, x ≠ n ++ 47 :: t := fun t e => e2 ⟨t, e⟩
        obtain ⟨h1, h2⟩ := q3 x hx e1 e2'
        rw [hc2.2 x (fun s hs e => (hmv2 m).1 s hs (e ▸ h1)), h2]
theorem allT_congr {p r : HouP} (hL : r.L = p.L) (hW : r.W = p.W) (hn : r.next = p.next) (hc : ∀ x ∈ p.L, r.c x = p.c x) : allT r = allT p := by
  unfold allT outT
  rw [hL, hW, hn, List.take_length]
  congr 1
  have : ∀ l : List Bs, (∀ x ∈ l, r.c x = p.c x) → (l.flatMap fun x => boxT x (r.c x)) = l.flatMap fun x => boxT x (p.c x) := by
    intro l
    induction l with
    | nil => intro _; rfl
    | cons x l ih =>
      intro h
      rw [List.flatMap_cons, List.flatMap_cons, h x (List.mem_cons_self ..), ih (fun y hy => h y (List.mem_cons_of_mem _ hy))]
  exact this p.L hc
/-- how a box is called behind the renaming -/
def whereF (n m s : Bs) : Bs := if s = n ∨ Lib.hasPrefix s (n ++ [47]) = true then m ++ s.drop n.length else s
theorem begins_in {n s : Bs} : Lib.hasPrefix s (n ++ [47]) = true ↔ ∃ t, s = n ++ 47 :: t := by
  unfold Lib.hasPrefix
  rw [List.isPrefixOf_iff_prefix]
  exact ⟨fun ⟨t, e⟩ => ⟨t, by rw [← e]; simp⟩, fun ⟨t, e⟩ => ⟨t, by rw [e]; simp⟩⟩
theorem moved_at {p : HouP} {B : Int} {n m : Bs} {q0 : Bs × Bs} {q : HouP} (hF : Full p B) (hB : B + 31 ≤ maxN) (hn : n ∈ p.L) (hni : n ≠ inboxB) (hpm : Proper m) (hm : moreF p.L n m = .inr q0) (hab : haboveF p.L m = []) (hq : moveAllP p n m (hinsideF p.L n ++ [n]) = q) {x : Bs} (hx : x ∈ p.L) :
    whereF n m x ∈ q.L ∧ q.c (whereF n m x) = p.c x := by
  obtain ⟨_, _, _, hmq, _, _, _, _, _, q1, q2, q3⟩ := moved_back hF hB hn hni hpm hm hab hq
  unfold whereF
  by_cases e1 : x = n
  · rw [if_pos (Or.inl e1), e1, drop_self', List.append_nil]
    exact ⟨hmq, q1⟩
  · by_cases e2 : ∃ t, x = n ++ 47 :: t
    · rw [if_pos (Or.inr (begins_in.2 e2))]
      obtain ⟨t, rfl⟩ := e2
      rw [drop_in]
      exact q2 t hx
    · rw [if_neg (fun h => h.elim e1 (fun h => e2 (begins_in.1 h)))]
      exact q3 x hx e1 (fun t e => e2 ⟨t, e⟩)
/-- the renaming as a deed, there and back -/
theorem rename_there {p : HouP} {B : Int} {a b n m : Bs} (hF : Full p B) (hB : B + 31 ≤ maxN) (ha : hnameF a = some n) (hb : hnameF b = some m) (hni : n ≠ inboxB) (hup : ∀ x t, m = x ++ 47 :: t → x ∈ p.L) :
    (∃ k, renameP p a b = (some k, p)) ∨ ∃ q, renameP p a b = (none, q) ∧ moreF p.L n m = .inr (n, m) ∧ n ∈ p.L ∧ haboveF p.L m = [] ∧ moveAllP p n m (hinsideF p.L n ++ [n]) = q := by
  have hab : haboveF p.L m = [] := List.eq_nil_iff_forall_not_mem.2 fun x hx => by
    obtain ⟨⟨t, e⟩, h⟩ := above_iff.1 hx
    exact h (hup x t e)
  unfold renameP
  cases hg : hgetF p.L a with
  | inl k => exact Or.inl ⟨k, rfl⟩
  | inr n' =>
    have hgn : n' = n ∧ n ∈ p.L := by
      unfold hgetF at hg
      rw [ha] at hg
      simp only at hg
      split at hg
      · cases hg; exact ⟨rfl, by assumption⟩
      · cases hg
    obtain ⟨rfl, hnL⟩ := hgn
    rw [hb]
    simp only [if_neg hni]
    cases hc : moreF p.L n' m with
    | inl k => exact Or.inl ⟨k, rfl⟩
    | inr q0 =>
      have hq0 : q0 = (n', m) := by
        unfold moreF at hc
        split at hc
        · cases hc
        · split at hc
          · cases hc
          · split at hc
            · cases hc
            · split at hc
              · cases hc
              · cases hc; rfl
      refine Or.inr ⟨_, rfl, by rw [hq0], hnL, hab, ?_⟩
      rw [hab]
      rfl
theorem rename_back {p : HouP} {B : Int} {n m : Bs} {q0 : Bs × Bs} {q : HouP} (hF : Full p B) (hB : B + 31 ≤ maxN) (hn : n ∈ p.L) (hni : n ≠ inboxB) (hpm : Proper m) (hm : moreF p.L n m = .inr q0) (hab : haboveF p.L m = []) (hq : moveAllP p n m (hinsideF p.L n ++ [n]) = q) :
    ∃ r, renameP q m n = (none, r) ∧ moreF q.L m n = .inr (m, n) ∧ allT r = allT p := by
  obtain ⟨_, _, _, hmq, hmi, habn, hmore, hback, hc, _, _, _⟩ := moved_back hF hB hn hni hpm hm hab hq
  have hpn : hnameF n = some n := hF.named.name n hn
  have hpm' : hnameF m = some m := hpm
  have hW : q.W = p.W := by rw [← hq]; exact (moveAllP_L n m _ p).2.1
  have hx : q.next = p.next := by rw [← hq]; exact (moveAllP_L n m _ p).2.2
  refine ⟨moveAllP q m n (hinsideF q.L m ++ [m]), ?_, hmore, allT_congr hback ((moveAllP_L m n _ q).2.1.trans hW) ((moveAllP_L m n _ q).2.2.trans hx) hc⟩
  unfold renameP hgetF
  rw [hpm']
  simp only [hmq, if_true, hpn, if_neg hmi, hmore, habn]
  rfl
end Go.Proofs.YtdlfbhbgemoelaaGreatDoor
namespace Go.Proofs.YtdlfbhbgemoelaaGreatDoor
open Go.RowKit Go.Shelf Go.Sort Go.Maps
set_option linter.unusedSimpArgs false

theorem prenameK_any (N H mb mw : Nat) (p : HouP) (a b n m : Bs) (w : World) (hh : Hou N w H mb mw p) (hB : InB p 3000000000) (hN : N ≤ w.heap.size) (ha : a.length ≤ 1000000) (hb : b.length ≤ 1000000) (hG : HG w) (hna : hnameF a = some n) (hnb : hnameF b = some m) (hni : n ≠ inboxB) :
    Calls Tryz.prog 12 #[.pointer (some ⟨H, 0, none⟩), .string ⟨a.toArray⟩, .string ⟨b.toArray⟩] w fun e w' => e = .returned (errE (renameP p a b).1) ∧ Hou N w' H mb mw (renameP p a b).2 ∧ Kept (fun k => k = H ∨ k = mb) w w' := by
  have hh0 := hh
  obtain ⟨h, hS, hR⟩ := hh
  have hm := hB.many
  have h0 := hB.lo
  have h1 := hB.hi
  unfold renameP
  cases hg : hgetF p.L a with
  | inl k =>
    refine (hrename_get N H mb mw h a b k w hS ha hG (by rw [hR.L]; exact hg)).mono ?_
    rintro e w' ⟨rfl, hb⟩
    exact ⟨rfl, hh0.below hb, kept_below hb⟩
  | inr n' =>
    have hgn := hget_inr hg
    obtain rfl : n' = n := Option.some.inj (hgn.1.symm.trans hna)
    rw [hnb]
    show Calls _ _ _ _ fun e w' => e = .returned (errE (if n' = inboxB then _ else (match moreF p.L n' m with
      | .inl k => (some k, p)
      | .inr _ => (none, mkAllP (moveAllP p n' m (hinsideF p.L n' ++ [n'])) (haboveF p.L m)) : Option Nat × HouP)).1) ∧ Hou N w' H mb mw (if n' = inboxB then _ else (match moreF p.L n' m with
      | .inl k => (some k, p)
      | .inr _ => (none, mkAllP (moveAllP p n' m (hinsideF p.L n' ++ [n'])) (haboveF p.L m)) : Option Nat × HouP)).2 ∧ _
    rw [if_neg hni]
    refine (hrename_more N H mb mw h a b n' m w hS hN ha hb (by rw [hR.L]; omega) hG (by rw [hR.next]; exact h0) (by rw [hR.next]; exact h1) (by rw [hR.L]; exact hg) hnb hni).mono ?_
    rw [hR.L]
    intro e w' hI
    cases hc : moreF p.L n' m with
    | inl k =>
      rw [hc] at hI
      obtain ⟨rfl, hb⟩ := hI
      exact ⟨rfl, hh0.below hb, kept_below hb⟩
    | inr q =>
      rw [hc] at hI
      have hq : q = (n', m) := by
        unfold moreF at hc
        split at hc
        · cases hc
        · split at hc
          · cases hc
          · split at hc
            · cases hc
            · split at hc
              · cases hc
              · cases hc; rfl
      subst hq
      obtain ⟨rfl, bs, hbs, hS', hK⟩ := hI
      rw [hR.L] at hbs hS'
      have hsub : ∀ s ∈ hinsideF p.L n' ++ [n'], s ∈ h.L := fun s hx => by
        rw [hR.L]
        rcases List.mem_append.1 hx with e | e
        · exact (inside_mem e).1
        · rw [List.mem_singleton] at e; exact e ▸ hgn.2
      have hR' := (hR.kept hK (spares_house hS (fun k e => e.elim Or.inl (fun e => Or.inr (Or.inl e)))))
      exact ⟨rfl, ⟨_, hS', (hR'.moves n' m _ _ _ (inside_fresh (sorts_hou hh0).1 n') hsub).makes _ bs _ _ hbs⟩, hK⟩
/-- what was saved is as it was, though the house is called otherwise -/
theorem saved_kept {N : Nat} {w w' : World} {H mb mw : Nat} {p p' : HouP} {nv bv wv : Value} (hh : Hou N w H mb mw p') (h1 : XS N w nv p.L) (h2 : BRow N w bv (p.L.map p.c)) (h3 : XS N w wv p.W) (hk : Kept (fun k => k = H ∨ k = mb) w w') : XS N w' nv p.L ∧ BRow N w' bv (p.L.map p.c) ∧ XS N w' wv p.W := by
  obtain ⟨h, hS, _⟩ := hh
  have hs : Spares N w (fun k => k = H ∨ k = mb) := spares_house hS (fun k e => e.elim Or.inl (fun e => Or.inr (Or.inl e)))
  refine ⟨h1.kept hk hs, h2.kept hk hs (fun k e cur fz hh => ?_), h3.kept hk hs⟩
  rcases e with rfl | rfl
  · rw [hS.cells] at hh
    injection hh with hh
    injection hh with _ hT
    exact absurd hT (by decide)
  · obtain ⟨es, cl, hb⟩ := hS.boxes.obj
    rw [hb] at hh
    cases hh
end Go.Proofs.YtdlfbhbgemoelaaGreatDoor
namespace Go.Proofs.YtdlfbhbgemoelaaGreatDoor
open Go.RowKit Go.Shelf Go.Sort Go.Maps
set_option linter.unusedSimpArgs false

/-- a row of deeds done, one behind the other -/
def doneP (p : HouP) (l : List DeedP) : HouP := l.foldl (fun p x => (deedP p x).2) p
theorem done_full : ∀ (l : List DeedP) (p : HouP) (B : Int), Full p B → B + 31 * (l.length : Int) ≤ maxN → Full (doneP p l) (B + 31 * (l.length : Int))
  | [], p, B, h, _ => by
    have : B + 31 * (([] : List DeedP).length : Int) = B := by simp
    rw [this]
    exact h
  | x :: l, p, B, h, hB => by
    have e : B + 31 * ((x :: l).length : Int) = (B + 31) + 31 * (l.length : Int) := by
      simp only [List.length_cons]
      omega
    rw [e] at hB ⊢
    exact done_full l (deedP p x).2 (B + 31) (h.deed (by omega) x) hB
/-- the last / of a name, and that none is behind it -/
theorem last_slash2 (x : Bs) : (Lib.lastIndexByte ⟨x.toArray⟩ 47 = -1 ∧ (47 : UInt8) ∉ x) ∨ ∃ i : Nat, Lib.lastIndexByte ⟨x.toArray⟩ 47 = (i : Int) ∧ i < x.length ∧ x = x.take i ++ 47 :: x.drop (i + 1) ∧ (47 : UInt8) ∉ x.drop (i + 1) := by
  have ts := text_size x
  have hne : ∀ j (hj : j < x.length), ((((⟨x.toArray⟩ : ByteArray).data[j]!).toNat : Int) ≠ 47) → x[j] ≠ 47 := fun j hj h e => h (by
    have : (⟨x.toArray⟩ : ByteArray).data[j]! = x[j] := by simp [hj]
    rw [this, e]; rfl)
  rcases Lib.lastIndexByte_spec ⟨x.toArray⟩ 47 with ⟨h, hn⟩ | ⟨i, h1, h2, h3, hn⟩
  · refine Or.inl ⟨h, fun hm => ?_⟩
    obtain ⟨j, hj, e⟩ := List.getElem_of_mem hm
    exact hne j hj (hn j (by rw [ts]; exact hj)) e
  · have hl : i < x.length := by rw [← ts]; exact h1
    refine Or.inr ⟨i, h2, hl, ?_, fun hm => ?_⟩
    · have e : x[i] = 47 := by
        have : ((x[i]).toNat : Int) = 47 := by simpa [hl] using h3
        have h47 : (47 : UInt8).toNat = 47 := rfl
        exact UInt8.toNat.inj (by omega)
      rw [← e, ← List.drop_eq_getElem_cons hl, List.take_append_drop]
    · obtain ⟨j, hj, e⟩ := List.getElem_of_mem hm
      rw [List.length_drop] at hj
      rw [List.getElem_drop] at e
      exact hne (i + 1 + j) (by omega) (hn (i + 1 + j) (by omega) (by rw [ts]; omega)) e
/-- what lies ahead of the last / being there, all that lies ahead of any / is -/
theorem ups_of_last {L : List Bs} (hu : Up L) {m : Bs} {i : Nat} (he : m = m.take i ++ 47 :: m.drop (i + 1)) (hn : (47 : UInt8) ∉ m.drop (i + 1)) (hm : m.take i ∈ L) : ∀ x t, m = x ++ 47 :: t → x ∈ L := by
  intro x t e
  rw [he] at e
  rcases List.append_eq_append_iff.1 e with ⟨a, e1, e2⟩ | ⟨a, e1, e2⟩
  · cases a with
    | nil =>
      rw [List.append_nil] at e1
      rw [e1]; exact hm
    | cons c a =>
      rw [List.cons_append] at e2
      injection e2 with _ e3
      exact absurd (by rw [e3]; simp) hn
  · cases a with
    | nil =>
      rw [List.append_nil] at e1
      rw [← e1]; exact hm
    | cons c a =>
      rw [List.cons_append] at e2
      injection e2 with e3 _
      subst e3
      exact hu x a (e1 ▸ hm)
/-- Get at what lies ahead of a name's / -/
theorem get_ahead {L : List Bs} {m n' : Bs} {i : Nat} (hm : Proper m) (he : m = m.take i ++ 47 :: m.drop (i + 1)) (hg : hgetF L (m.take i) = .inr n') : m.take i ∈ L := by
  have hp : Proper (m.take i) := Proper.up (t := m.drop (i + 1)) (he ▸ hm)
  obtain ⟨h1, h2⟩ := hget_inr hg
  exact Option.some.inj (hp.symm.trans h1) ▸ h2
/-- a second house is as it was, though the first one is called otherwise -/
theorem hou_other {N : Nat} {w w' : World} {H mb mw H2 mb2 mw2 : Nat} {p p2 : HouP} (h1 : Hou N w H mb mw p) (h2 : Hou N w H2 mb2 mw2 p2) (hk : Kept (fun k => k = H ∨ k = mb) w w') (hn : (H2 ≠ H ∧ H2 ≠ mb) ∧ (mb2 ≠ H ∧ mb2 ≠ mb) ∧ (mw2 ≠ H ∧ mw2 ≠ mb)) : Hou N w' H2 mb2 mw2 p2 := by
  obtain ⟨h, hS, _⟩ := h1
  obtain ⟨g, gS, gR⟩ := h2
  have hs : Spares N w (fun k => k = H ∨ k = mb) := spares_house hS (fun k e => e.elim Or.inl (fun e => Or.inr (Or.inl e)))
  obtain ⟨es, cl, hb⟩ := hS.boxes.obj
  refine ⟨g, gS.kept hk (fun e => e.elim hn.1.1 hn.1.2) (fun e => e.elim hn.2.1.1 hn.2.1.2) (fun e => e.elim hn.2.2.1 hn.2.2.2) (fun x hx e => ?_), gR.kept hk hs⟩
  have hx' := (gS.box x hx).2
  rcases e with e | e
  · rw [e, hS.cells] at hx'
    injection hx' with hx'
    injection hx' with _ hT
    exact absurd hT (by decide)
  · rw [e, hb] at hx'
    cases hx'
theorem hou_blocks {N : Nat} {w : World} {H mb mw : Nat} {p : HouP} (h : Hou N w H mb mw p) : (N ≤ H ∧ N ≤ mb) ∧ H < w.heap.size ∧ mb < w.heap.size := by
  obtain ⟨h, hS, _⟩ := h
  obtain ⟨es, cl, hb⟩ := hS.boxes.obj
  exact ⟨⟨hS.loH, hS.lob⟩, (Array.getElem?_eq_some_iff.1 hS.cells).1, (Array.getElem?_eq_some_iff.1 hb).1⟩
/-- where a name stands in a row of names -/
theorem index_mem (x : Bs) : ∀ (L : List Bs) (i : Nat), x ∈ L → ∃ k : Nat, Lib.idxFromS (L.map fun t => (⟨t.toArray⟩ : ByteArray)) ⟨x.toArray⟩ i = ((i + k : Nat) : Int) ∧ L[k]? = some x
  | [], _, h => by cases h
  | y :: L, i, h => by
    by_cases e : y = x
    · subst e
      exact ⟨0, by simp [Lib.idxFromS], rfl⟩
    · have hne : (⟨y.toArray⟩ : ByteArray) ≠ ⟨x.toArray⟩ := fun h => e (by
        have := congrArg (fun a : ByteArray => a.data.toList) h
        simpa using this)
      obtain ⟨k, h1, h2⟩ := index_mem x L (i + 1) ((List.mem_cons.1 h).resolve_left (fun h => e h.symm))
      refine ⟨k + 1, ?_, h2⟩
      simp only [List.map_cons, Lib.idxFromS, if_neg hne, h1]
      congr 1
      omega
theorem index_any (v : Value) (L : List Bs) (x : Bs) (w : World) (hv : SRow w v L) (hx : x ∈ L) (hl : L.length ≤ 1000) :
    Calls Tryz.prog 14 #[v, .string ⟨x.toArray⟩] w fun e w' => ∃ k : Nat, e = .returned (.int .i64 (k : Int)) ∧ L[k]? = some x ∧ w = w' := by
  obtain ⟨ao, cap, rfl, _, _, hc⟩ := hv
  obtain ⟨y, hy⟩ : ∃ y, L[0]? = some y := by
    cases L with
    | nil => cases hx
    | cons y L => exact ⟨y, rfl⟩
  obtain ⟨b, off, rfl, _, _⟩ := hc 0 y hy
  obtain ⟨k, h1, h2⟩ := index_mem x L 0 hx
  refine (Tryz.slices_Index_string b off L.length cap (L.map fun t => (⟨t.toArray⟩ : ByteArray)) ⟨x.toArray⟩ w (by rw [List.length_map]; exact Nat.le_refl _) (by omega) (fun j hj => ?_)).mono ?_
  · rw [List.length_map] at hj
    obtain ⟨b', off', e, _, h⟩ := hc j L[j] (List.getElem?_eq_getElem hj)
    injection e with e
    injection e with e1 e2
    subst e1 e2
    rw [h]
    simp [List.getD, hj]
  · rintro e w' ⟨rfl, rfl⟩
    refine ⟨k, ?_, h2, rfl⟩
    rw [show (L.map fun t => (⟨t.toArray⟩ : ByteArray)).take L.length = L.map fun t => (⟨t.toArray⟩ : ByteArray) by rw [List.take_of_length_le (by rw [List.length_map]; exact Nat.le_refl _)]]
    unfold Lib.idxOfS
    rw [h1, Nat.zero_add]
/-- Save's result by its parts, and what keeps them -/
theorem hsaveX_parts (N H mb mw : Nat) (p : HouP) (w : World) (hh : Hou N w H mb mw p) (hB : InB p 3000000000) (hN : N ≤ w.heap.size) (M MW : Nat) (nx : Int) (hM : p.L.length = M) (hMW : p.W.length = MW) (hnx : p.next = nx) :
    Calls Tryz.prog 11 #[.pointer (some ⟨H, 0, none⟩)] w fun e w' => ∃ na nc ba bc wa wc, e = .returned (.agg #[.slice na M nc, .slice ba M bc, .slice wa MW wc, .int .i64 nx]) ∧ Hid (XS N w' (.slice na M nc) p.L ∧ BRow N w' (.slice ba M bc) (p.L.map p.c) ∧ XS N w' (.slice wa MW wc) p.W) ∧ Below w.heap.size w w' := by
  refine (hsaveX_any N H mb mw p w hh hB hN).mono ?_
  rintro e w' ⟨v, rfl, ⟨nv, bv, wv, rfl, h1, h2, h3⟩, hb⟩
  have h1' := h1.1
  have h2' := h2
  have h3' := h3.1
  obtain ⟨na, nc, rfl, _⟩ := h1'
  obtain ⟨ba, bc, rfl, _⟩ := h2'
  obtain ⟨wa, wc, rfl, _⟩ := h3'
  rw [List.length_map] at h2 ⊢
  rw [hM] at h1 h2 ⊢
  rw [hMW] at h3 ⊢
  rw [hnx]
  exact ⟨na, nc, ba, bc, wa, wc, rfl, ⟨h1, h2, h3⟩, hb⟩
/-- a box of a row of boxes, by its cells -/
theorem brow_at {N : Nat} {w : World} {ba : Option Addr} {M bc : Nat} {bl : List BoxP} (h : BRow N w (.slice ba M bc) bl) {k : Nat} {b : BoxP} (hk : bl[k]? = some b) :
    ∃ B off la lc, ba = some ⟨B, off, none⟩ ∧ B < w.heap.size ∧ w.cell? ⟨B, off + k * 3, none⟩ = some (.int .i64 b.valid) ∧ w.cell? ⟨B, off + k * 3 + 1, none⟩ = some (.int .i64 b.next) ∧ w.cell? ⟨B, off + k * 3 + 2, none⟩ = some (.slice la b.ls.length lc) := by
  obtain ⟨ao, cap, he, _, _, hc⟩ := h
  obtain ⟨B, off, lv, zs, hae, hB, b0, b1, b2, hzs, hxr⟩ := hc k b hk
  obtain ⟨la, lc, rfl, _⟩ := hxr.1
  injection he with e _ _
  refine ⟨B, off, la, lc, by rw [e, hae], hB, b0, b1, ?_⟩
  rw [b2, ← hzs, List.length_map]
end Go.Proofs.YtdlfbhbgemoelaaGreatDoor
namespace Go.Proofs.YtdlfbhbgemoelaaGreatDoor
open Go.RowKit Go.Shelf Go.Sort Go.Maps
set_option linter.unusedSimpArgs false

theorem full_new : Full newP 2 := by
  have h0 : Good ⟨[], fun _ => ⟨0, 0, []⟩, [], 1⟩ := ⟨List.Pairwise.nil, (fun x hx => by cases hx), (fun x hx => by cases hx), (fun x hx => by cases hx), by decide⟩
  have hL : newP.L = [inboxB] := rfl
  refine ⟨h0.mk1 (by simp) (by decide), ⟨List.Pairwise.nil, fun n hn => ?_, (fun n hn => by cases hn), (by rw [hL]; simp), fun a t h => ?_⟩, new_inB⟩
  · rw [hL, List.mem_singleton] at hn
    subst hn
    show hnameF inboxB = some inboxB
    decide +kernel
  · rw [hL, List.mem_singleton] at h
    have : (47 : UInt8) ∈ inboxB := by rw [← h]; simp
    exact absurd this (by decide)
set_option linter.constructorNameAsVariable false in
set_option maxRecDepth 100000 in
set_option maxHeartbeats 16000000 in
theorem houseMoves_any (v : Value) (l : List DeedP) (a b : Bs) (w : World) (hv : DRow w v l) (ht : ∀ x ∈ l, x.s.length ≤ 9223372036854775807 ∧ x.t.length ≤ 9223372036854775807) (hal : a.length ≤ 9223372036854775807) (hbl : b.length ≤ 9223372036854775807) (hC : HC w) (hF : FlagG w) (hT : TabP w) :
    Calls Tryz.prog 3 #[v, .string ⟨a.toArray⟩, .string ⟨b.toArray⟩] w fun e w' => e = .returned (.bool true) ∧ Below w.heap.size w w' := by
  have cS := smallD_any v l w hv ht
  have ta := text_size a
  have tb := text_size b
  cases hsm : smallD l with
  | false =>
    rw [hsm] at cS
    clear hv ht hC hF hT hsm
    go_enter Tryz.func3, Tryz.ntmps3
    go_wp2_with (go_at_call 4; (with_reducible refine cS.mono ?_); rintro e w' ⟨rfl, rfl⟩)
    go_ret
    exact ⟨rfl, Below.refl _ _⟩
  | true =>
  rw [hsm] at cS
  by_cases ha : (100 : Int) < (a.length : Int)
  · clear hv ht hC hF hT hsm
    go_enter Tryz.func3, Tryz.ntmps3
    go_wp2_with (go_at_call 4; (with_reducible refine cS.mono ?_); rintro e w' ⟨rfl, rfl⟩)
    go_ret
    exact ⟨rfl, Below.refl _ _⟩
  by_cases hb : (100 : Int) < (b.length : Int)
  · clear hv ht hC hF hT hsm
    go_enter Tryz.func3, Tryz.ntmps3
    go_wp2_with (go_at_call 4; (with_reducible refine cS.mono ?_); rintro e w' ⟨rfl, rfl⟩)
    go_ret
    exact ⟨rfl, Below.refl _ _⟩
  obtain ⟨hl40, hsl⟩ := smallD_iff hsm
  have hgl := flagG_lt hF
  have cHd := housed_any w hC
  have hwg : ∀ W, Below w.heap.size w W → HC W ∧ FlagG W ∧ TabP W := fun W hb => ⟨hC.below hb, hF.below hb, hT.below hb⟩
  have HWG := Lib.hid hwg
  have HSL := Lib.hid hsl
  obtain ⟨ao, cap, rfl, hcap, ⟨hcm, _⟩, hcell⟩ := hv
  have HCL := Lib.hid hcell
  clear hC hF hT ht hsm hsl hwg hcell
  go_enter Tryz.func3, Tryz.ntmps3
  go_upto_region 5 with (first
    | (go_at_call 4; (with_reducible refine cS.mono ?_); rintro e w' ⟨rfl, rfl⟩)
    | (go_at_call 5; (with_reducible refine cHd.mono ?_); rintro e w1 ⟨rfl, hb1⟩))
  clear cS cHd
  have cNew := hnew_any w1
  obtain ⟨N, hNN⟩ : ∃ N, w1.heap.size = N := ⟨_, rfl⟩
  have hle : w.heap.size ≤ N := hNN ▸ hb1.size
  have hglN : 4 < N := Nat.lt_of_lt_of_le hgl hle
  have hall : ∀ W, Below N w1 W → Below w.heap.size w W := fun W hb => hb1.trans (hb.mono hle)
  have hsz : ∀ W, Below N w1 W → N ≤ W.heap.size := fun W hb => hNN ▸ (hNN.symm ▸ hb : Below w1.heap.size w1 W).size
  have cNew : Calls Tryz.prog 6 #[] w1 fun e w' => ∃ H mb mw, e = .returned (.pointer (some ⟨H, 0, none⟩)) ∧ Hid (Hou N w' H mb mw newP) ∧ Below N w1 w' := cNew.mono (by
    rintro e w' ⟨H, mb, mw, B, rfl, h1, h2⟩
    rw [← hNN]
    exact ⟨H, mb, mw, rfl, new_hou h1, h2⟩)
  have HALL := Lib.hid hall
  have HSZ := Lib.hid hsz
  clear hall hsz hgl
  go_upto_region 8 with (go_at_call 6; (with_reducible refine cNew.mono ?_); rintro e w2 ⟨H, mb, mw, rfl, HH2, hb2⟩)
  clear cNew
  have HB2 := Lib.hid hb2
  clear hb2
  go_wp2_with fail
  go_loopg [8] l.length (fun g s8 wr => ∃ (k : Nat) (p : HouP), k + g = l.length ∧ s8 = .int .i64 (k : Int) ∧ Hid (Hou N wr H mb mw p) ∧ Hid (Full p (2 + 31 * (k : Int))) ∧ Hid (Below N w1 wr))
  case atStart => exact ⟨0, _, by omega, rfl, HH2, full_new, HB2⟩
  case round =>
    obtain ⟨k, p, hk, rfl, HH, HFU, HB⟩ := hrel
    clear HH2 HB2
    have hbr := HALL.out wr HB.out
    by_cases hlt : k < l.length
    · obtain ⟨g', rfl⟩ : ∃ g', gk = g' + 1 := ⟨gk - 1, by omega⟩
      obtain ⟨x, hx⟩ : ∃ x, l[k]? = some x := ⟨l[k], List.getElem?_eq_getElem hlt⟩
      obtain ⟨bl, off, rfl, hb, c0, c1, c2, c3⟩ := HCL.out k x hx
      have e0 := (hbr.cell (p := ⟨bl, _, none⟩) hb).trans c0
      have e1 := (hbr.cell (p := ⟨bl, _, none⟩) hb).trans c1
      have e2 := (hbr.cell (p := ⟨bl, _, none⟩) hb).trans c2
      have e3 := (hbr.cell (p := ⟨bl, _, none⟩) hb).trans c3
      have hxs := HSL.out x (List.mem_of_getElem? hx)
      have hkz : (k : Int) < (l.length : Int) := by omega
      have hF3 : Full p 3000 := HFU.out.mono (by omega)
      have hin : InB p 3000000000 := hF3.inb.mono (by decide)
      have cD : Calls Tryz.prog 7 #[.pointer (some ⟨H, 0, none⟩), .agg #[.int .i64 x.what, .string ⟨x.s.toArray⟩, .string ⟨x.t.toArray⟩, .bool x.yes]] wr (DoneS N wr H mb mw (deedP p x)) := by
        obtain ⟨hc, hf, _⟩ := HWG.out wr hbr
        exact deed_any N H mb mw p x wr HH.out hin (HSZ.out wr HB.out) (by omega) (by omega) hc.1 hf hglN
      have hFD : Full (deedP p x).2 (2 + 31 * ((k + 1 : Nat) : Int)) := (HFU.out.deed (by unfold maxN; omega) x).mono (by omega)
      obtain ⟨⟨o, q⟩, hr⟩ : ∃ r, deedP p x = r := ⟨_, rfl⟩
      rw [hr] at cD hFD
      simp only at hFD
      obtain ⟨E, hE⟩ : ∃ E, errE o = E := ⟨_, rfl⟩
      have cD : Calls Tryz.prog 7 #[.pointer (some ⟨H, 0, none⟩), .agg #[.int .i64 x.what, .string ⟨x.s.toArray⟩, .string ⟨x.t.toArray⟩, .bool x.yes]] wr fun e w' => e = .returned E ∧ Hid (Hou N w' H mb mw q) ∧ Below N wr w' := hE ▸ cD
      have HFD := Lib.hid hFD
      clear hx c0 c1 c2 c3 hbr hr hFD hxs hF3 hin hE
      go_wp2_with (go_at_call 7; (with_reducible refine cD.mono ?_); rintro e w4 ⟨rfl, HH4, hb4⟩)
      go_roundg g'
      case measure => omega
      case rel => exact ⟨k + 1, q, by omega, by go_num, HH4, HFD, HB.out.trans hb4⟩
    · obtain rfl : k = l.length := by omega
      have hFB : Full p 1300 := HFU.out.mono (by omega)
      have HFB := Lib.hid hFB
      have hmv : ∀ {W W'}, Below N w1 W → Below W.heap.size W W' → Below N w1 W' := fun h h' => h.trans (h'.mono (HSZ.out _ h))
      have hGW : ∀ W, Below N w1 W → HG W := fun W h => (HWG.out W (HALL.out W h)).1.1
      have cNa : ∀ W, Below N w1 W → Calls Tryz.prog 8 #[.string ⟨a.toArray⟩] W fun e w' => e = .returned (hnameV (hnameF a)) ∧ Below W.heap.size W w' := fun W h => hname_any a W (by omega) (hGW W h)
      have cNb : ∀ W, Below N w1 W → Calls Tryz.prog 8 #[.string ⟨b.toArray⟩] W fun e w' => e = .returned (hnameV (hnameF b)) ∧ Below W.heap.size W w' := fun W h => hname_any b W (by omega) (hGW W h)
      have hB0 := HB.out
      have HGW := Lib.hid hGW
      clear HCL HSL hcm hcap hbr hFB hGW HFU hlt hk
      cases hna : hnameF a with
      | none =>
        have cNa : ∀ W, Below N w1 W → Calls Tryz.prog 8 #[.string ⟨a.toArray⟩] W fun e w' => e = .returned (.tuple #[.string ⟨#[]⟩, .iface 55 (.int .i64 1)]) ∧ Below W.heap.size W w' := by rw [hna] at cNa; exact cNa
        obtain ⟨sv, ev, hbv⟩ : ∃ s e, hnameV (hnameF b) = .tuple #[.string s, e] := by cases hnameF b <;> exact ⟨_, _, rfl⟩
        rw [hbv] at cNb
        clear hna hbv
        go_wp2_with (first
          | (go_at_call 8; (with_reducible refine (cNa _ hB0).mono ?_); rintro e w3 ⟨rfl, h3⟩; have hb3 := hmv hB0 h3)
          | (go_at_call 8; (with_reducible refine (cNb _ hb3).mono ?_); rintro e w4 ⟨rfl, h4⟩; have hb4 := hmv hb3 h4))
        go_ret
        exact ⟨rfl, HALL.out _ hb4⟩
      | some n =>
      have cNa : ∀ W, Below N w1 W → Calls Tryz.prog 8 #[.string ⟨a.toArray⟩] W fun e w' => e = .returned (.tuple #[.string ⟨n.toArray⟩, .nilIface]) ∧ Below W.heap.size W w' := by rw [hna] at cNa; exact cNa
      cases hnb : hnameF b with
      | none =>
        have cNb : ∀ W, Below N w1 W → Calls Tryz.prog 8 #[.string ⟨b.toArray⟩] W fun e w' => e = .returned (.tuple #[.string ⟨#[]⟩, .iface 55 (.int .i64 1)]) ∧ Below W.heap.size W w' := by rw [hnb] at cNb; exact cNb
        clear hna hnb
        go_wp2_with (first
          | (go_at_call 8; (with_reducible refine (cNa _ hB0).mono ?_); rintro e w3 ⟨rfl, h3⟩; have hb3 := hmv hB0 h3)
          | (go_at_call 8; (with_reducible refine (cNb _ hb3).mono ?_); rintro e w4 ⟨rfl, h4⟩; have hb4 := hmv hb3 h4))
        go_ret
        exact ⟨rfl, HALL.out _ hb4⟩
      | some m =>
      have cNb : ∀ W, Below N w1 W → Calls Tryz.prog 8 #[.string ⟨b.toArray⟩] W fun e w' => e = .returned (.tuple #[.string ⟨m.toArray⟩, .nilIface]) ∧ Below W.heap.size W w' := by rw [hnb] at cNb; exact cNb
      by_cases hni : n = inboxB
      · obtain rfl : n = [73, 78, 66, 79, 88] := hni
        clear hna hnb
        go_wp2_with (first
          | (go_at_call 8; (with_reducible refine (cNa _ hB0).mono ?_); rintro e w3 ⟨rfl, h3⟩; have hb3 := hmv hB0 h3)
          | (go_at_call 8; (with_reducible refine (cNb _ hb3).mono ?_); rintro e w4 ⟨rfl, h4⟩; have hb4 := hmv hb3 h4))
        go_ret
        exact ⟨rfl, HALL.out _ hb4⟩
      have hgb : (n == [73, 78, 66, 79, 88]) = false := by rw [beq_eq_false_iff_ne]; exact hni
      have hpm : Proper m := name_again hnb
      have hln := (hnameF_len hna).1
      have hlm := (hnameF_len hnb).1
      have tn := text_size n
      have tm := text_size m
      have HNA := Lib.hid hna
      have HNB := Lib.hid hnb
      have HNI := Lib.hid hni
      have HPM := Lib.hid hpm
      have hls := last_slash2 m
      obtain ⟨K, hK⟩ : ∃ K, Lib.lastIndexByte ⟨m.toArray⟩ 47 = K := ⟨_, rfl⟩
      have cL : ∀ W, Calls Tryz.prog 9 #[.string ⟨m.toArray⟩, .int .u8 47] W fun e w' => e = .returned (.int .i64 K) ∧ W = w' := fun W => hK ▸ (Tryz.strings_LastIndexByte ⟨m.toArray⟩ 47 (by rw [tm]; omega) W).mono fun _ _ ⟨h1, h2⟩ => ⟨h1, h2.symm⟩
      rw [hK] at hls
      clear hna hnb hni hpm hK
      go_upto_if 76 with (first
        | (go_at_call 8; (with_reducible refine (cNa _ hB0).mono ?_); rintro e w3 ⟨rfl, h3⟩; have hb3 := hmv hB0 h3)
        | (go_at_call 8; (with_reducible refine (cNb _ hb3).mono ?_); rintro e w4 ⟨rfl, h4⟩; have hb4 := hmv hb3 h4; have h34 := h3.trans (h4.mono h3.size); have HH4 := Lib.hid (HH.out.below h34))
        | (go_at_call 9; (with_reducible refine (cL _).mono ?_); rintro e w5 ⟨rfl, rfl⟩))
      go_cut [] (fun wx => Hid (∀ x t, m = x ++ 47 :: t → x ∈ p.L) ∧ Hid (Hou N wx H mb mw p) ∧ Hid (Below N w1 wx))
      case first =>
        rcases hls with ⟨rfl, hno⟩ | ⟨i, rfl, hil, hme, hno⟩
        · have hU : Hid (∀ x t, m = x ++ 47 :: t → x ∈ p.L) := Lib.hid fun x t e => absurd (by rw [e]; simp) hno
          go_wp2_with fail
          go_meet
          exact ⟨hU, HH4, hb4⟩
        · have hpt : (⟨m.toArray⟩ : ByteArray).extract 0 i = ⟨(m.take i).toArray⟩ := by rw [text_part]; simp
          have hmi : (m.take i).length ≤ 60 := by rw [List.length_take]; omega
          obtain ⟨h, hS, hR⟩ := HH4.out
          have cG := hget_any N H mb mw h (m.take i) _ hS (by omega) (HGW.out _ hb4)
          rw [hR.L] at cG
          have hiz : (i : Int) < (m.length : Int) := by omega
          cases hg : hgetF p.L (m.take i) with
          | inl e =>
            rw [hg] at cG
            have cG : Calls Tryz.prog 10 #[.pointer (some ⟨H, 0, none⟩), .string ⟨(m.take i).toArray⟩] w4 fun e' w' => e' = .returned (.tuple #[.pointer none, .iface 55 (.int .i64 (e : Int))]) ∧ Below w4.heap.size w4 w' := cG
            clear hS hR hg hme hno
            go_wp2_with (go_at_call 10; (with_reducible refine cG.mono ?_); rintro e w5 ⟨rfl, h5⟩; have hb5 := hmv hb4 h5)
            go_ret
            exact ⟨rfl, HALL.out _ hb5⟩
          | inr n' =>
            have hU := Lib.hid (ups_of_last HFB.out.named.up hme hno (get_ahead HPM.out hme hg))
            rw [hg] at cG
            obtain ⟨pb, hpb⟩ : ∃ pb, (h.box n').blk = pb := ⟨_, rfl⟩
            have cG : Calls Tryz.prog 10 #[.pointer (some ⟨H, 0, none⟩), .string ⟨(m.take i).toArray⟩] w4 fun e' w' => e' = .returned (.tuple #[.pointer (some ⟨pb, 0, none⟩), .nilIface]) ∧ Below w4.heap.size w4 w' := hpb ▸ cG
            clear hS hR hg hme hno hpb
            go_wp2_with (go_at_call 10; (with_reducible refine cG.mono ?_); rintro e w5 ⟨rfl, h5⟩; have hb5 := hmv hb4 h5)
            go_meet
            exact ⟨hU, HH4.out.below h5, hb5⟩
      case rest =>
        obtain ⟨HU, HH5, HB5⟩ := hcut
        clear hls HH4 hb4 h34 h3 h4 hb3 cL cNa cNb
        obtain ⟨M, hM⟩ : ∃ M, p.L.length = M := ⟨_, rfl⟩
        obtain ⟨MW, hMW⟩ : ∃ M, p.W.length = M := ⟨_, rfl⟩
        obtain ⟨nx, hnx⟩ : ∃ nx, p.next = nx := ⟨_, rfl⟩
        have hin3 : InB p 3000000000 := HFB.out.inb.mono (by decide)
        have hm30 : M ≤ 30 := hM ▸ HFB.out.inb.many
        have cS := hsaveX_parts N H mb mw p _ HH5.out hin3 (HSZ.out _ HB5.out) M MW nx hM hMW hnx
        have HM := Lib.hid hM
        have HMW := Lib.hid hMW
        have HNX := Lib.hid hnx
        have HIN := Lib.hid hin3
        clear hM hMW hnx hin3
        go_upto_region 22 with (go_at_call 11; (with_reducible refine cS.mono ?_); rintro e w6 ⟨na, nc, ba, bc, wa, wc, rfl, HR, h6⟩)
        clear cS
        have hb6 := hmv HB5.out h6
        have HH6 := HH5.out.below h6
        have hbl6 := hou_blocks HH6
        obtain ⟨w7, hw7⟩ : ∃ w7, w6.alloc (.cells #[.slice na M nc, .slice ba M bc, .slice wa MW wc, .int .i64 nx] 41) = w7 := ⟨_, rfl⟩
        rw [hw7]
        have y7 : Below w6.heap.size w6 w7 := hw7 ▸ (Below.refl _ _).alloc (Nat.le_refl _) _
        have x7 : w7.heap[w6.heap.size]? = some (.cells #[.slice na M nc, .slice ba M bc, .slice wa MW wc, .int .i64 nx] 41 (0, 0)) := hw7 ▸ World.heap_alloc_new w6 _
        have hb7 := hmv hb6 y7
        have HH7 := HH6.below y7
        have HR7 : Hid (XS N w7 (.slice na M nc) p.L ∧ BRow N w7 (.slice ba M bc) (p.L.map p.c) ∧ XS N w7 (.slice wa MW wc) p.W) := ⟨HR.out.1.below y7, HR.out.2.1.below y7, HR.out.2.2.below y7⟩
        obtain ⟨U, hU⟩ : ∃ U, w6.heap.size = U := ⟨_, rfl⟩
        rw [hU] at x7 hbl6 ⊢
        have cRn := prenameK_any N H mb mw p a b n m w7 HH7 HIN.out (HSZ.out w7 hb7) (by omega) (by omega) (HGW.out w7 hb7) HNA.out HNB.out HNI.out
        have hkb : ∀ {W : World}, Kept (fun k => k = H ∨ k = mb) w7 W → Below N w7 W := fun hk => hk.below (HSZ.out w7 hb7) (fun k e => by
          rcases e with rfl | rfl
          · exact hbl6.1.1
          · exact hbl6.1.2)
        rcases rename_there HFB.out (by unfold maxN; omega) HNA.out HNB.out HNI.out HU.out with ⟨ek, hek⟩ | ⟨q, hq, hmore, hnL, hab, hmq⟩
        · rw [hek] at cRn
          have cRn : Calls Tryz.prog 12 #[.pointer (some ⟨H, 0, none⟩), .string ⟨a.toArray⟩, .string ⟨b.toArray⟩] w7 fun e w' => e = .returned (.iface 55 (.int .i64 (ek : Int))) ∧ Hid (Below N w7 w') := cRn.mono (by
            rintro e w' ⟨rfl, _, hk⟩
            exact ⟨rfl, hkb hk⟩)
          clear hek hU hw7 y7 x7 hb6 h6 hbl6 HR HH6 HH7
          go_wp2_with (go_at_call 12; (with_reducible refine cRn.mono ?_); rintro e w8 ⟨rfl, h8⟩)
          go_ret
          exact ⟨rfl, HALL.out _ (hb7.trans h8.out)⟩
        have hFQ : Full q 1331 := by
          have h := HFB.out.deed (by unfold maxN; omega) ⟨2, a, b, false⟩
          have e : deedP p ⟨2, a, b, false⟩ = (none, q) := by
            show (if (2 : Int) = 0 then _ else _) = _
            rw [if_neg (by decide)]
            show (if (2 : Int) = 1 then _ else _) = _
            rw [if_neg (by decide)]
            exact hq
          rw [e] at h
          exact h
        have hqn : q.W = p.W ∧ q.next = p.next := by
          rw [← hmq]
          exact (moveAllP_L n m _ p).2
        obtain ⟨_, _, hqL, hmqL, hmi, _⟩ := moved_back HFB.out (by unfold maxN; omega) hnL HNI.out HPM.out hmore hab hmq
        have hmA := fun x (hx : x ∈ p.L) => moved_at HFB.out (by unfold maxN; omega) hnL HNI.out HPM.out hmore hab hmq hx
        obtain ⟨r, hr, _, hrp⟩ := rename_back HFB.out (by unfold maxN; omega) hnL HNI.out HPM.out hmore hab hmq
        have hFR : Full r 1362 := by
          have h := hFQ.deed (by unfold maxN; omega) ⟨2, m, n, false⟩
          have e : deedP q ⟨2, m, n, false⟩ = (none, r) := by
            show (if (2 : Int) = 0 then _ else _) = _
            rw [if_neg (by decide)]
            show (if (2 : Int) = 1 then _ else _) = _
            rw [if_neg (by decide)]
            exact hr
          rw [e] at h
          exact h
        rw [hq] at cRn
        have cRn : Calls Tryz.prog 12 #[.pointer (some ⟨H, 0, none⟩), .string ⟨a.toArray⟩, .string ⟨b.toArray⟩] w7 fun e w' => e = .returned .nilIface ∧ Hid (Hou N w' H mb mw q) ∧ Hid (Kept (fun k => k = H ∨ k = mb) w7 w') := cRn
        have HR7' := Lib.hid (fun (W : World) (hk : Kept (fun k => k = H ∨ k = mb) w7 W) => saved_kept HH7 HR7.out.1 HR7.out.2.1 HR7.out.2.2 hk)
        have HX7 := Lib.hid (fun (W : World) (hk : Kept (fun k => k = H ∨ k = mb) w7 W) => hk.obj x7 (fun e => by rcases e with e | e <;> omega))
        have HKB := Lib.hid (fun (W : World) (hk : Kept (fun k => k = H ∨ k = mb) w7 W) => hb7.trans (hkb hk))
        have HFQ := Lib.hid hFQ
        have HFR := Lib.hid hFR
        have HQN := Lib.hid hqn
        have HQL := Lib.hid hqL
        have HMI := Lib.hid hmi
        have HMA := Lib.hid hmA
        have HRR := Lib.hid hr
        have HRP := Lib.hid hrp
        clear hU hw7 y7 x7 hb6 h6 hbl6 HR HH6 HH7 HR7 hb7 hkb hq hmore hnL hab hmq hFQ hFR hqn hqL hmqL hmi hmA hr hrp
        go_upto_region 24 with (go_at_call 12; (with_reducible refine cRn.mono ?_); rintro e w8 ⟨rfl, HQ8, HK8⟩)
        clear cRn
        have HR8 := HR7'.out w8 HK8.out
        have x8 := HX7.out w8 HK8.out
        have hb8 := HKB.out w8 HK8.out
        have hinq : InB q 3000000000 := HFQ.out.inb.mono (by decide)
        have cS2 := hsaveX_parts N H mb mw q w8 HQ8.out hinq (HSZ.out w8 hb8) M MW nx (HQL.out.trans HM.out) (by rw [HQN.out.1]; exact HMW.out) (by rw [HQN.out.2]; exact HNX.out)
        clear hinq HR7' HX7 HKB HK8
        go_upto_region 25 with (go_at_call 11; (with_reducible refine cS2.mono ?_); rintro e w9 ⟨na2, nc2, ba2, bc2, wa2, wc2, rfl, HR2, h9⟩)
        clear cS2
        obtain ⟨w10, hw10⟩ : ∃ w10, w9.alloc (.cells #[.slice na2 M nc2, .slice ba2 M bc2, .slice wa2 MW wc2, .int .i64 nx] 41) = w10 := ⟨_, rfl⟩
        rw [hw10]
        have y10 : Below w9.heap.size w9 w10 := hw10 ▸ (Below.refl _ _).alloc (Nat.le_refl _) _
        have y810 : Below w8.heap.size w8 w10 := h9.trans (y10.mono h9.size)
        have x10 : w10.heap[w9.heap.size]? = some (.cells #[.slice na2 M nc2, .slice ba2 M bc2, .slice wa2 MW wc2, .int .i64 nx] 41 (0, 0)) := hw10 ▸ World.heap_alloc_new w9 _
        have u10 := below_same y810 x8
        have hb10 := hmv hb8 y810
        have HR10 : Hid (XS N w10 (.slice na M nc) p.L ∧ BRow N w10 (.slice ba M bc) (p.L.map p.c) ∧ XS N w10 (.slice wa MW wc) p.W) := ⟨HR8.1.below y810, HR8.2.1.below y810, HR8.2.2.below y810⟩
        have HN10 : Hid (XS N w10 (.slice na2 M nc2) q.L ∧ BRow N w10 (.slice ba2 M bc2) (q.L.map q.c)) := ⟨HR2.out.1.below y10, HR2.out.2.1.below y10⟩
        have HQ10 := Lib.hid (HQ8.out.below y810)
        obtain ⟨V, hV⟩ : ∃ V, w9.heap.size = V := ⟨_, rfl⟩
        rw [hV] at x10 ⊢
        obtain ⟨k0, k1, k2, k3⟩ := four_cells u10
        obtain ⟨v0, v1, v2, v3⟩ := four_cells x10
        have hcU : ∀ W, Below w10.heap.size w10 W → W.cell? ⟨U, 0, none⟩ = some (.slice na M nc) ∧ W.cell? ⟨U, 1, none⟩ = some (.slice ba M bc) ∧ W.cell? ⟨U, 2, none⟩ = some (.slice wa MW wc) ∧ W.cell? ⟨U, 3, none⟩ = some (.int .i64 nx) := fun W h => four_cells (below_same h u10)
        have hcV : ∀ W, Below w10.heap.size w10 W → W.cell? ⟨V, 0, none⟩ = some (.slice na2 M nc2) ∧ W.cell? ⟨V, 1, none⟩ = some (.slice ba2 M bc2) := fun W h => ⟨(four_cells (below_same h x10)).1, (four_cells (below_same h x10)).2.1⟩
        have HCU := Lib.hid hcU
        have HCV := Lib.hid hcV
        clear hw10 y10 y810 x10 u10 hV hcU hcV HR8 x8 HQ8 h9 HR2 hb8
        go_wp2_with fail
        clear k0 k1 k2 k3 v0 v1 v2 v3
        go_loopg [18] M (fun g s18 wr => ∃ k : Nat, k + g = M ∧ s18 = .int .i64 (k : Int) ∧ Hid (Below w10.heap.size w10 wr))
        case atStart => exact ⟨0, by omega, rfl, Lib.hid (Below.refl _ _)⟩
        case round =>
          obtain ⟨k, hk, rfl, HBr⟩ := hrel
          obtain ⟨k0, k1, k2, k3⟩ := HCU.out _ HBr.out
          obtain ⟨v0, v1⟩ := HCV.out _ HBr.out
          by_cases hlt : k < M
          · obtain ⟨g', rfl⟩ : ∃ g', gk = g' + 1 := ⟨gk - 1, by omega⟩
            obtain ⟨x, hx⟩ : ∃ x, p.L[k]? = some x := ⟨p.L[k]'(by rw [HM.out]; exact hlt), List.getElem?_eq_getElem _⟩
            have hxL := List.mem_of_getElem? hx
            have hxl := (hnameF_len (HFB.out.named.name x hxL)).1
            obtain ⟨ao, cap, hao, _, _, hnc⟩ := HR10.out.1.1
            obtain ⟨nb, noff, hae, hnb, n0⟩ := hnc k x hx
            obtain rfl : na = some ⟨nb, noff, none⟩ := by
              injection hao with e _ _
              rw [e, hae]
            obtain ⟨bb, boff, la, lc, rfl, hbb, b0, b1, b2⟩ := brow_at HR10.out.2.1 (k := k) (b := p.c x) (by rw [List.getElem?_map, hx]; rfl)
            have m0 := (HBr.out.cell (p := ⟨nb, _, none⟩) hnb).trans n0
            have q0 := (HBr.out.cell (p := ⟨bb, _, none⟩) hbb).trans b0
            have q2 := (HBr.out.cell (p := ⟨bb, _, none⟩) hbb).trans b2
            obtain ⟨hY1, hY2⟩ := HMA.out x hxL
            obtain ⟨Y, hY⟩ : ∃ Y, whereF n m x = Y := ⟨_, rfl⟩
            rw [hY] at hY1 hY2
            have HYE := Lib.hid hY
            have cI := fun W (h : Below w10.heap.size w10 W) => index_any (.slice na2 M nc2) q.L Y W (HN10.out.1.1.below h) hY1 (by rw [HQL.out, HM.out]; omega)
            have HB2 : Hid (∀ k2 : Nat, q.L[k2]? = some Y → ∃ B off la2 lc2, ba2 = some ⟨B, off, none⟩ ∧ B < w10.heap.size ∧ k2 < M ∧ w10.cell? ⟨B, off + k2 * 3, none⟩ = some (.int .i64 (p.c x).valid) ∧ w10.cell? ⟨B, off + k2 * 3 + 2, none⟩ = some (.slice la2 (p.c x).ls.length lc2)) := Lib.hid fun k2 h2 => by
              obtain ⟨B, off, la2, lc2, e, hB, c0, _, c2⟩ := brow_at HN10.out.2 (k := k2) (b := q.c Y) (by rw [List.getElem?_map, h2]; rfl)
              rw [hY2] at c0 c2
              have hlt2 := (List.getElem?_eq_some_iff.1 h2).1
              rw [HQL.out, HM.out] at hlt2
              exact ⟨B, off, la2, lc2, e, hB, hlt2, c0, c2⟩
            obtain ⟨vd, hvd⟩ : ∃ vd, (p.c x).valid = vd := ⟨_, rfl⟩
            obtain ⟨ln, hln2⟩ : ∃ ln, (p.c x).ls.length = ln := ⟨_, rfl⟩
            rw [hvd] at q0 HB2
            rw [hln2] at q2 HB2
            have hln60 : ln ≤ 60 := hln2 ▸ (HFB.out.inb.box x hxL).2
            have tx := text_size x
            obtain ⟨nm, hnm⟩ : ∃ nm, n ++ [47] = nm := ⟨_, rfl⟩
            have hct : (⟨n.toArray⟩ : ByteArray) ++ ⟨#[47]⟩ = ⟨nm.toArray⟩ := by rw [← hnm]; exact text_cat n [47]
            have cP : ∀ W, Calls Tryz.prog 13 #[.string ⟨x.toArray⟩, .string ⟨nm.toArray⟩] W fun e w' => e = .returned (.bool (Lib.hasPrefix x nm)) ∧ W = w' := fun W => (Tryz.strings_HasPrefix ⟨x.toArray⟩ ⟨nm.toArray⟩ W).mono fun _ _ ⟨h1, h2⟩ => ⟨h1, h2.symm⟩
            have hwf : Y = if x = n ∨ Lib.hasPrefix x nm = true then m ++ x.drop n.length else x := by rw [← hY, ← hnm]; rfl
            have hpl : Lib.hasPrefix x nm = true → n.length ≤ x.length := fun h => by
              unfold Lib.hasPrefix at h
              rw [List.isPrefixOf_iff_prefix] at h
              have := h.length_le
              rw [← hnm, List.length_append] at this
              omega
            obtain ⟨bp, hbp⟩ : ∃ bp, Lib.hasPrefix x nm = bp := ⟨_, rfl⟩
            rw [hbp] at cP hwf hpl
            have HWF := Lib.hid hwf
            have HPL := Lib.hid hpl
            have hkz : (k : Int) < (M : Int) := by omega
            have HX := Lib.hid hx
            clear hx hxL hao hae hnc n0 b0 b1 b2 hY1 hY2 hY hvd hln2 hwf hpl hbp hnm
            go_upto_region 31 with fail
            clear m0
            go_cut [130] (fun s130 wx => ∃ T : Bool, s130 = .bool T ∧ Hid (T = decide (x = n ∨ bp = true)) ∧ wr = wx)
            case first =>
              by_cases hxn : x = n
              · subst hxn
                have hxx : (x == x) = true := by simp
                go_wp2_with fail
                go_meet
                exact ⟨true, rfl, Lib.hid (by simp), rfl⟩
              · have hxn1 : (x == n) = false := by rw [beq_eq_false_iff_ne]; exact hxn
                go_wp2_with (go_at_call 13; (with_reducible refine (cP _).mono ?_); rintro e w6 ⟨rfl, rfl⟩)
                go_meet
                exact ⟨bp, rfl, Lib.hid (by simp [hxn]), rfl⟩
            case rest =>
              obtain ⟨T, rfl, hTT, rfl⟩ := hcut
              go_upto_if 130 with fail
              go_cut [19] (fun s19 wx => s19 = .string ⟨Y.toArray⟩ ∧ wr = wx)
              case first =>
                cases T with
                | false =>
                  have hYx : Y = x := by
                    rw [HWF.out, if_neg]
                    intro h
                    have := hTT.out
                    rw [decide_eq_true h] at this
                    cases this
                  subst hYx
                  go_wp2_with fail
                  go_meet
                  exact ⟨rfl, rfl⟩
                | true =>
                  have hor : x = n ∨ bp = true := of_decide_eq_true hTT.out.symm
                  have hYm : m ++ x.drop n.length = Y := by rw [HWF.out, if_pos hor]
                  have hle2 : n.length ≤ x.length := hor.elim (fun e => by rw [e]; exact Nat.le_refl _) HPL.out
                  obtain ⟨d, hd⟩ : ∃ d, x.drop n.length = d := ⟨_, rfl⟩
                  have hpd : (⟨x.toArray⟩ : ByteArray).extract n.length x.length = ⟨d.toArray⟩ := by rw [text_part, ← hd, List.take_of_length_le (by simp)]
                  have htd : (⟨m.toArray⟩ : ByteArray) ++ ⟨d.toArray⟩ = ⟨Y.toArray⟩ := by rw [← hYm, ← hd]; exact text_cat _ _
                  have hdl : d.length ≤ 60 := by rw [← hd, List.length_drop]; omega
                  have tsd := text_size d
                  have hlz : (n.length : Int) ≤ (x.length : Int) := by omega
                  clear hd hYm hor
                  go_wp2_with fail
                  go_meet
                  exact ⟨rfl, rfl⟩
              case rest =>
                obtain ⟨rfl, rfl⟩ := hcut
                clear HWF HPL hTT cP
                go_upto_region 34 with (go_at_call 14; (with_reducible refine (cI _ HBr.out).mono ?_); rintro e w11 ⟨k2, rfl, hk2, rfl⟩)
                obtain ⟨B2, off2, la2, lc2, rfl, hB2, hk2M, c0, c2⟩ := HB2.out k2 hk2
                have p0 := (HBr.out.cell (p := ⟨B2, _, none⟩) hB2).trans c0
                have p2 := (HBr.out.cell (p := ⟨B2, _, none⟩) hB2).trans c2
                have hk2z : (k2 : Int) < (M : Int) := by omega
                clear c0 c2 hk2 cI
                go_quiet (fail)
                go_wp2_with fail
                go_roundg g'
                case measure => omega
                case rel => exact ⟨k + 1, by omega, by go_num, HBr.out.trans ((below_drewN wr _).mono HBr.out.size)⟩
          · obtain rfl : k = M := by omega
            have hbr := hmv hb10 HBr.out
            have HQr := Lib.hid (HQ10.out.below HBr.out)
            have HRr : Hid (SRow wr (.slice na k nc) p.L ∧ BRow N wr (.slice ba k bc) (p.L.map p.c) ∧ SRow wr (.slice wa MW wc) p.W) := ⟨HR10.out.1.1.below HBr.out, HR10.out.2.1.below HBr.out, HR10.out.2.2.1.below HBr.out⟩
            have cRt : ∀ W, Below wr.heap.size wr W → Calls Tryz.prog 41 #[.agg #[.slice na k nc, .slice ba k bc, .slice wa MW wc, .int .i64 nx]] W fun e w' => e = .returned (.bool true) ∧ Below W.heap.size W w' := fun W h => by
              obtain ⟨hc, hf, _⟩ := HWG.out W (HALL.out W (hmv hbr h))
              exact hright_any N p 1300 W na ba wa k nc bc MW wc nx ⟨HRr.out.1.below h, HRr.out.2.1.below h, HRr.out.2.2.below h⟩ HM.out HMW.out HNX.out HFB.out (by decide) hc.1 hf
            have cLd := hload_any N p 1300 wr na ba wa k nc bc MW wc nx HRr.out HM.out HMW.out HNX.out HFB.out (HSZ.out wr hbr) cRt
            obtain ⟨TQ, hTQ⟩ : ∃ t, allT p = t := ⟨_, rfl⟩
            have hrTQ : allT r = TQ := HRP.out.trans hTQ
            have cR2 : ∀ W, Hid (Hou N W H mb mw q) → Below N w1 W → Calls Tryz.prog 12 #[.pointer (some ⟨H, 0, none⟩), .string ⟨m.toArray⟩, .string ⟨n.toArray⟩] W fun e w' => e = .returned .nilIface ∧ Hid (Hou N w' H mb mw r) ∧ Hid (Kept (fun k => k = H ∨ k = mb) W w') := fun W hh hb => by
              have := prenameK_any N H mb mw q m n m n W hh.out (HFQ.out.inb.mono (by decide)) (HSZ.out W hb) (by omega) (by omega) (HGW.out W hb) HPM.out (name_again HNA.out) HMI.out
              rw [HRR.out] at this
              exact this
            have cA1 : ∀ W, Hid (Hou N W H mb mw r) → Below N w1 W → Calls Tryz.prog 16 #[.pointer (some ⟨H, 0, none⟩)] W fun e w' => e = .returned (.string ⟨TQ.toArray⟩) ∧ Below W.heap.size W w' := fun W hh hb => hrTQ ▸ all_any N H mb mw r 1362 W hh.out HFR.out (by decide) (HSZ.out W hb) (HWG.out W (HALL.out W hb)).2.2
            have cA2 : ∀ W H2 mb2 mw2, Hid (Hou N W H2 mb2 mw2 p) → Below N w1 W → Calls Tryz.prog 16 #[.pointer (some ⟨H2, 0, none⟩)] W fun e w' => e = .returned (.string ⟨TQ.toArray⟩) ∧ Below W.heap.size W w' := fun W H2 mb2 mw2 hh hb => hTQ ▸ all_any N H2 mb2 mw2 p 1300 W hh.out HFB.out (by decide) (HSZ.out W hb) (HWG.out W (HALL.out W hb)).2.2
            have hmvK : ∀ {W W' : World} {k1 : Hid (Hou N W H mb mw q)}, Below N w1 W → Hid (Kept (fun k => k = H ∨ k = mb) W W') → Hid (Below N w1 W') := fun {W W' k1} hb hk => Lib.hid (hb.trans (hk.out.below (HSZ.out W hb) (fun j e => by
              have := hou_blocks k1.out
              rcases e with rfl | rfl
              · exact this.1.1
              · exact this.1.2)))
            have hoth : ∀ {W W' : World} {H2 mb2 mw2 : Nat}, Hid (Hou N W H mb mw q) → Hid (Hou N W H2 mb2 mw2 p ∧ wr.heap.size ≤ H2 ∧ wr.heap.size ≤ mb2 ∧ wr.heap.size ≤ mw2) → Hid (Kept (fun k => k = H ∨ k = mb) W W') → Hid (Hou N W' H2 mb2 mw2 p) := fun h1 h2 hk => Lib.hid (by
              have hB := (hou_blocks HQr.out).2
              obtain ⟨a1, a2, a3, a4⟩ := h2.out
              exact hou_other h1.out a1 hk.out ⟨⟨by omega, by omega⟩, ⟨by omega, by omega⟩, ⟨by omega, by omega⟩⟩)
            have CR2 := Lib.hid cR2
            have CA1 := Lib.hid cA1
            have CA2 := Lib.hid cA2
            clear hTQ hrTQ cRt cR2 cA1 cA2 hln hlm
            go_wp2_with (first
              | (go_at_call 15; (with_reducible refine cLd.mono ?_); rintro e w11 ⟨H2, mb2, mw2, rfl, HG11, h11⟩; have hb11 := hmv hbr h11; have HQ11 := Lib.hid (HQr.out.below h11); have cR11 := CR2.out w11 HQ11 hb11)
              | (go_at_call 12; (with_reducible refine cR11.mono ?_); rintro e w12 ⟨rfl, HR12, HK12⟩; have hb12 := hmvK (k1 := HQ11) hb11 HK12; have HG12 := hoth HQ11 HG11 HK12; have cA12 := CA1.out w12 HR12 hb12.out)
              | (go_at_call 16; (with_reducible refine cA12.mono ?_); rintro e w13 ⟨rfl, h13⟩; have hb13 := hmv hb12.out h13; have HG13 := Lib.hid (HG12.out.below h13); have cA13 := CA2.out w13 H2 mb2 mw2 HG13 hb13)
              | (go_at_call 16; (with_reducible refine cA13.mono ?_); rintro e w14 ⟨rfl, h14⟩; have hb14 := hmv hb13 h14))
            go_ret
            exact ⟨rfl, HALL.out _ hb14⟩
end Go.Proofs.YtdlfbhbgemoelaaGreatDoor
