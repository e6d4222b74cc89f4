/- Plain laws: who is told all sees all. No program in sight. -/
import Derived.Test.YteabnpahhkicaaaDoorPPost
namespace Go.Proofs.YteabnpahhkicaaaDoor

abbrev Fl := List (List UInt8)
/-- what somebody who is told makes of one of the news -/
def tell1 (us3 : Us) (T : List Fl) (n : Nw) : List Fl := if n.kind = 1 then T.eraseIdx (n.n.toNat - 1) else if n.kind = 2 then T ++ (us3.drop T.length).map (·.2) else T.set (n.n.toNat - 1) n.fl
def tellOk (us3 : Us) (ls : List Let) (all : Bool) (T : List Fl) (n : Nw) : Prop := n.kind = 1 ∧ 1 ≤ n.n ∧ n.n ≤ T.length ∧ all = true ∨ n.kind = 2 ∧ (T.length : Int) < n.n ∧ n.n = us3.length ∧ (∀ u ∈ us3.drop T.length, foundB ls u = true) ∨ n.kind = 3 ∧ 1 ≤ n.n ∧ n.n ≤ T.length
/-- news that may be told one by one, and what is held behind them -/
def Tells (us3 : Us) (ls : List Let) (all : Bool) : List Fl → List Nw → List Fl → Prop
  | T, [], T' => T' = T
  | T, n :: r, T' => tellOk us3 ls all T n ∧ Tells us3 ls all (tell1 us3 T n) r T'
theorem Tells.app {us3 : Us} {ls : List Let} {all : Bool} : ∀ {a b : List Nw} {T U V : List Fl}, Tells us3 ls all T a U → Tells us3 ls all U b V → Tells us3 ls all T (a ++ b) V
  | [], b, T, U, V, h, k => by
    have : U = T := h
    subst this
    exact k
  | n :: r, b, T, U, V, h, k => ⟨h.1, h.2.app k⟩
theorem tells_gone {ls : List Let} {us us3 : Us} : ∀ c, c ≤ us.length → Tells us3 ls true (us.map (·.2)) (goneL ls us c) ((curL ls us (us.length - c)).map (·.2))
  | 0, _ => by
    show _ = _
    rw [Nat.sub_zero, curL_all]
  | c + 1, hc => by
    have ih := tells_gone (ls := ls) (us := us) (us3 := us3) c (by omega)
    refine ih.app ?_
    obtain ⟨u, hu⟩ : ∃ u, us[us.length - 1 - c]? = some u := ⟨us[us.length - 1 - c], List.getElem?_eq_getElem (by omega)⟩
    rw [hu]
    have e1 : us.length - c = us.length - 1 - c + 1 := by omega
    have e2 : us.length - (c + 1) = us.length - 1 - c := by omega
    rw [e2, e1]
    show Tells us3 ls true _ (if foundB ls u = true then _ else _) _
    cases hf : foundB ls u with
    | true =>
      rw [if_pos rfl]
      show _ = _
      rw [curL_yes hu hf]
    | false =>
      rw [if_neg (by decide)]
      have hlen := curL_len (ls := ls) (us := us) (m := us.length - 1 - c + 1) (by omega)
      refine ⟨Or.inl ⟨rfl, ?_, ?_, rfl⟩, ?_⟩
      · show (1 : Int) ≤ ((us.length - 1 - c + 1 : Nat) : Int)
        omega
      · show ((us.length - 1 - c + 1 : Nat) : Int) ≤ _
        rw [List.length_map]
        omega
      · show _ = tell1 us3 _ ⟨1, ((us.length - 1 - c + 1 : Nat) : Int), []⟩
        unfold tell1
        rw [if_pos rfl, Int.toNat_natCast, Nat.add_sub_cancel, curL_no hu hf, map_erase]
theorem tells_flags {ls : List Let} {us3 : Us} {all : Bool} {X : List Fl} : ∀ (r pre : Us), Tells us3 ls all ((pre.map (nowF ls)).map (·.2) ++ r.map (·.2) ++ X) (chF ls pre.length r) (((pre ++ r).map (nowF ls)).map (·.2) ++ X)
  | [], pre => by
    show _ = _
    simp
  | u :: r, pre => by
    have ih := tells_flags (ls := ls) (us3 := us3) (all := all) (X := X) r (pre ++ [u])
    have e1 : pre ++ [u] ++ r = pre ++ u :: r := by simp
    have e2 : (pre ++ [u]).length = pre.length + 1 := by simp
    rw [e1, e2] at ih
    by_cases h : (nowF ls u).2 = u.2
    · show Tells us3 ls all _ ((if _ then _ else _) ++ _) _
      rw [if_pos h, List.nil_append]
      have e3 : ((pre ++ [u]).map (nowF ls)).map (·.2) ++ r.map (·.2) = (pre.map (nowF ls)).map (·.2) ++ (u :: r).map (·.2) := by simp [h]
      rw [e3] at ih
      exact ih
    · show Tells us3 ls all _ ((if _ then _ else _) ++ _) _
      rw [if_neg h]
      have hl : ((pre.map (nowF ls)).map (·.2)).length = pre.length := by simp
      refine ⟨Or.inr (Or.inr ⟨rfl, ?_, ?_⟩), ?_⟩
      · show (1 : Int) ≤ ((pre.length + 1 : Nat) : Int)
        omega
      · show ((pre.length + 1 : Nat) : Int) ≤ _
        simp only [List.length_append, List.length_map, List.length_cons]
        omega
      · have e3 : tell1 us3 ((pre.map (nowF ls)).map (·.2) ++ (u :: r).map (·.2) ++ X) ⟨3, ((pre.length + 1 : Nat) : Int), (nowF ls u).2⟩ = ((pre ++ [u]).map (nowF ls)).map (·.2) ++ r.map (·.2) ++ X := by
          unfold tell1
          rw [if_neg (show ¬ ((3 : Int) = 1) by decide), if_neg (show ¬ ((3 : Int) = 2) by decide)]
          show List.set _ (((pre.length + 1 : Nat) : Int).toNat - 1) _ = _
          rw [Int.toNat_natCast, Nat.add_sub_cancel, List.append_assoc, List.set_append_right _ _ (by omega), hl, Nat.sub_self]
          simp
        rw [e3]
        exact ih

/-- what somebody has seen of a box -/
structure Sees (b : BoxP) (us : Us) : Prop where
  rise : us.Pairwise (fun x y => x.1 < y.1)
  low : ∀ u ∈ us, 1 ≤ u.1 ∧ u.1 < b.next
  all : ∀ y ∈ b.ls, (∃ u ∈ us, u.1 = y.uid) ∨ ∀ u ∈ us, u.1 < y.uid
theorem right_parts {b : BoxP} (h : rightB b = true) : rightL b.next 0 b.ls = true ∧ (1 ≤ b.next ∧ b.next ≤ 2147483647) ∧ b.ls.length ≤ 60 := by
  unfold rightB numB maxN at h
  simp only [Bool.and_eq_true, decide_eq_true_eq] at h
  exact ⟨h.1.1.1, h.1.2, h.2⟩
theorem right_uid {b : BoxP} (h : rightB b = true) {y : Let} (hy : y ∈ b.ls) : 1 ≤ y.uid ∧ y.uid < b.next := by
  obtain ⟨k, hk⟩ := List.getElem?_of_mem hy
  have := letOk_iff.1 (rightL_at (right_parts h).1 hk)
  exact ⟨by omega, this.2.2.1⟩
theorem right_rise {b : BoxP} (h : rightB b = true) : b.ls.Pairwise (fun x y => x.uid < y.uid) := (rightL_lt (right_parts h).1).1
theorem sees_open {b : BoxP} (h : rightB b = true) : Sees b (b.ls.map fun x => (x.uid, x.flags)) := by
  refine ⟨List.pairwise_map.2 (right_rise h), fun u hu => ?_, fun y hy => Or.inl ⟨(y.uid, y.flags), List.mem_map_of_mem hy, rfl⟩⟩
  obtain ⟨y, hy, rfl⟩ := List.mem_map.1 hu
  exact right_uid h hy
theorem sees_post {b b' : BoxP} {us : Us} {P : Prop} (h : Sees b us) (hs : Stays b b' P) : Sees b' us := by
  refine ⟨h.rise, fun u hu => ?_, fun y hy => ?_⟩
  · have := h.low u hu
    rcases hs.next with e | e <;> omega
  · rcases hs.ls y hy with ⟨z, hz, e, _⟩ | e
    · rw [← e]; exact h.all z hz
    · exact Or.inr (fun u hu => by have := (h.low u hu).2; omega)
def inU (T : Us) (y : Let) : Bool := T.any fun u => decide (u.1 = y.uid)
theorem inU_iff {T : Us} {y : Let} : inU T y = true ↔ ∃ u ∈ T, u.1 = y.uid := by
  unfold inU
  simp
theorem last_max {T : Us} (hr : T.Pairwise (fun x y => x.1 < y.1)) {u : Int × Fl} (hu : u ∈ T) : ∃ n, lastU T = some n ∧ u.1 ≤ n := by
  rcases List.eq_nil_or_concat T with rfl | ⟨T', v, hT⟩
  · cases hu
  · rw [List.concat_eq_append] at hT
    subst hT
    refine ⟨v.1, by simp [lastU], ?_⟩
    rcases List.mem_append.1 hu with h | h
    · have := (List.pairwise_append.1 hr).2.2 u h v (List.mem_singleton_self v)
      omega
    · obtain rfl := List.mem_singleton.1 h
      exact Int.le_refl _
theorem seeF_is : ∀ (ls : List Let) (T : Us), ls.Pairwise (fun x y => x.uid < y.uid) → T.Pairwise (fun x y => x.1 < y.1) → (∀ y ∈ ls, (∃ u ∈ T, u.1 = y.uid) ∨ ∀ u ∈ T, u.1 < y.uid) → seeF ls T = T ++ (ls.filter fun y => !inU T y).map fun y => (y.uid, y.flags)
  | [], T, _, _, _ => by show T = _; simp
  | y :: r, T, hp, hr, hall => by
    obtain ⟨h1, h2⟩ := List.pairwise_cons.1 hp
    show seeF r (addF T y) = _
    cases hi : inU T y with
    | true =>
      obtain ⟨u, hu, e⟩ := inU_iff.1 hi
      obtain ⟨n, hn, hle⟩ := last_max hr hu
      have ha : addF T y = T := by
        have hb : newB T y = false := by
          unfold newB
          rw [hn]
          exact decide_eq_false (by omega)
        unfold addF
        rw [hb]
        rfl
      rw [ha, seeF_is r T h2 hr (fun z hz => hall z (List.mem_cons_of_mem _ hz)), List.filter_cons, hi]
      rfl
    | false =>
      have hab : ∀ u ∈ T, u.1 < y.uid := by
        rcases hall y (List.mem_cons_self ..) with h | h
        · rw [inU_iff.2 h] at hi; cases hi
        · exact h
      have ha : addF T y = T ++ [(y.uid, y.flags)] := by
        have hb : newB T y = true := by
          unfold newB
          cases hl : lastU T with
          | none => rfl
          | some n =>
            have : n < y.uid := by
              unfold lastU at hl
              obtain ⟨v, hv, rfl⟩ := Option.map_eq_some_iff.1 hl
              exact hab v (List.mem_of_getLast? hv)
            exact decide_eq_true this
        unfold addF
        rw [hb]
        rfl
      have hr2 : (T ++ [(y.uid, y.flags)]).Pairwise (fun x y => x.1 < y.1) := List.pairwise_append.2 ⟨hr, List.pairwise_singleton _ _, fun u hu v hv => by
        obtain rfl := List.mem_singleton.1 hv
        exact hab u hu⟩
      have hz1 : ∀ z ∈ r, inU T z = false := fun z hz => by
        cases h : inU T z with
        | false => rfl
        | true =>
          obtain ⟨u, hu, e⟩ := inU_iff.1 h
          have := hab u hu
          have := h1 z hz
          omega
      have hz2 : ∀ z ∈ r, inU (T ++ [(y.uid, y.flags)]) z = false := fun z hz => by
        cases h : inU (T ++ [(y.uid, y.flags)]) z with
        | false => rfl
        | true =>
          obtain ⟨u, hu, e⟩ := inU_iff.1 h
          have hh := h1 z hz
          rcases List.mem_append.1 hu with h' | h'
          · have := hab u h'
            omega
          · obtain rfl := List.mem_singleton.1 h'
            simp only at e
            omega
      rw [ha, seeF_is r _ h2 hr2 (fun z hz => Or.inr (fun u hu => by
        have hh := h1 z hz
        rcases List.mem_append.1 hu with h' | h'
        · have := hab u h'; omega
        · obtain rfl := List.mem_singleton.1 h'
          exact hh)), List.filter_cons, hi]
      have e1 : (r.filter fun z => !inU (T ++ [(y.uid, y.flags)]) z) = r := List.filter_eq_self.2 (fun z hz => by rw [hz2 z hz]; rfl)
      have e2 : (r.filter fun z => !inU T z) = r := List.filter_eq_self.2 (fun z hz => by rw [hz1 z hz]; rfl)
      rw [e1]
      simp only [Bool.not_false, if_true, List.map_cons]
      rw [e2, List.append_assoc]
      rfl
/-- two rows that rise and have the same are one -/
theorem rise_ext : ∀ {l m : List Int}, l.Pairwise (· < ·) → m.Pairwise (· < ·) → (∀ x, x ∈ l ↔ x ∈ m) → l = m
  | [], [], _, _, _ => rfl
  | [], y :: m, _, _, h => by have := (h y).2 (List.mem_cons_self ..); cases this
  | x :: l, [], _, _, h => by have := (h x).1 (List.mem_cons_self ..); cases this
  | x :: l, y :: m, hl, hm, h => by
    obtain ⟨l1, l2⟩ := List.pairwise_cons.1 hl
    obtain ⟨m1, m2⟩ := List.pairwise_cons.1 hm
    have e : x = y := by
      rcases List.mem_cons.1 ((h x).1 (List.mem_cons_self ..)) with e | hx
      · exact e
      · rcases List.mem_cons.1 ((h y).2 (List.mem_cons_self ..)) with e | hy
        · exact e.symm
        · have := m1 x hx
          have := l1 y hy
          omega
    subst e
    rw [rise_ext l2 m2 (fun z => ⟨fun hz => by
      rcases List.mem_cons.1 ((h z).1 (List.mem_cons_of_mem _ hz)) with e | h'
      · have := l1 z hz; omega
      · exact h', fun hz => by
      rcases List.mem_cons.1 ((h z).2 (List.mem_cons_of_mem _ hz)) with e | h'
      · have := m1 z hz; omega
      · exact h'⟩)]
theorem found_iff {ls : List Let} {u : Int × Fl} : foundB ls u = true ↔ ∃ y ∈ ls, y.uid = u.1 := by
  unfold foundB findB
  rw [List.findIdx?_isSome, List.any_eq_true]
  simp only [decide_eq_true_eq]
/-- the flags now of one that is there -/
theorem nowF_mem {b : BoxP} (h : rightB b = true) {y : Let} (hy : y ∈ b.ls) (u : Int × Fl) (e : y.uid = u.1) : nowF b.ls u = (y.uid, y.flags) := by
  have hf : foundB b.ls u = true := found_iff.2 ⟨y, hy, e⟩
  obtain ⟨k, hk⟩ := Option.isSome_iff_exists.1 (show (findB b.ls u.1).isSome = true from hf)
  obtain ⟨x, hx, ex⟩ := findB_some hk
  have hxm : x ∈ b.ls := List.mem_of_getElem? hx
  have exy : x = y := by
    obtain ⟨i, hi⟩ := List.getElem?_of_mem hy
    obtain ⟨hk1, hk2⟩ := List.getElem?_eq_some_iff.1 hx
    obtain ⟨hi1, hi2⟩ := List.getElem?_eq_some_iff.1 hi
    have hp := List.pairwise_iff_getElem.1 (right_rise h)
    rcases Nat.lt_trichotomy k i with hlt | heq | hgt
    · have := hp k i hk1 hi1 hlt
      rw [hk2, hi2] at this
      omega
    · subst heq
      rw [hx] at hi
      exact Option.some.inj hi
    · have := hp i k hi1 hk1 hgt
      rw [hk2, hi2] at this
      omega
  rw [nowF_some hk hx, exy, e]
theorem nowF_idem (ls : List Let) (u : Int × Fl) : nowF ls (nowF ls u) = nowF ls u := by
  cases hk : findB ls u.1 with
  | none => rw [nowF_none hk, nowF_none hk]
  | some k =>
    obtain ⟨x, hx, _⟩ := findB_some hk
    rw [nowF_some hk hx, nowF_some (u := (u.1, x.flags)) hk hx]
theorem goneL_nil {ls : List Let} {us : Us} (h : ∀ u ∈ us, foundB ls u = true) : ∀ c, goneL ls us c = []
  | 0 => rfl
  | c + 1 => by
    show goneL ls us c ++ _ = []
    rw [goneL_nil h c, List.nil_append]
    cases e : us[us.length - 1 - c]? with
    | none => rfl
    | some u =>
      show (if foundB ls u = true then _ else _) = _
      rw [if_pos (h u (List.mem_of_getElem? e))]
theorem chF_nil {ls : List Let} : ∀ {us : Us} {i : Nat}, (∀ u ∈ us, nowF ls u = u) → chF ls i us = []
  | [], _, _ => rfl
  | u :: r, i, h => by
    show (if _ then _ else _) ++ _ = []
    rw [if_pos (by rw [h u (List.mem_cons_self ..)]), chF_nil (fun v hv => h v (List.mem_cons_of_mem _ hv))]
    rfl
def seenF (ls : List Let) (us : Us) (g : Bool) : Us := if g then us.filter (foundB ls) else us
def extF (ls : List Let) (us : Us) (g : Bool) : Us := (ls.filter fun y => !inU ((seenF ls us g).map (nowF ls)) y).map fun y => (y.uid, y.flags)
theorem seenF_sub (ls : List Let) (us : Us) (g : Bool) : (seenF ls us g).Sublist us := by
  unfold seenF
  split
  · exact List.filter_sublist
  · exact List.Sublist.refl _
theorem seen_rise {b : BoxP} {us : Us} (h : Sees b us) (g : Bool) : ((seenF b.ls us g).map (nowF b.ls)).Pairwise (fun x y => x.1 < y.1) := by
  rw [List.pairwise_map]
  refine (h.rise.sublist (seenF_sub b.ls us g)).imp (fun {x y} hxy => ?_)
  rw [nowF_fst, nowF_fst]
  exact hxy
theorem seen_all {b : BoxP} {us : Us} (h : Sees b us) (g : Bool) {y : Let} (hy : y ∈ b.ls) : (∃ u ∈ (seenF b.ls us g).map (nowF b.ls), u.1 = y.uid) ∨ ∀ u ∈ (seenF b.ls us g).map (nowF b.ls), u.1 < y.uid := by
  rcases h.all y hy with ⟨u, hu, e⟩ | hlt
  · refine Or.inl ⟨nowF b.ls u, List.mem_map_of_mem ?_, by rw [nowF_fst]; exact e⟩
    unfold seenF
    split
    · exact List.mem_filter.2 ⟨hu, found_iff.2 ⟨y, hy, e.symm⟩⟩
    · exact hu
  · refine Or.inr (fun v hv => ?_)
    obtain ⟨u, hu, rfl⟩ := List.mem_map.1 hv
    rw [nowF_fst]
    exact hlt u ((seenF_sub b.ls us g).subset hu)
theorem look_is {b : BoxP} {us : Us} (hb : rightB b = true) (h : Sees b us) (g : Bool) : (lookF b.ls us g).2 = (seenF b.ls us g).map (nowF b.ls) ++ extF b.ls us g :=
  seeF_is b.ls ((seenF b.ls us g).map (nowF b.ls)) (right_rise hb) (seen_rise h g) (fun _ hy => seen_all h g hy)
theorem ext_mem {ls : List Let} {us : Us} {g : Bool} {u : Int × Fl} (hu : u ∈ extF ls us g) : ∃ y ∈ ls, inU ((seenF ls us g).map (nowF ls)) y = false ∧ u = (y.uid, y.flags) := by
  obtain ⟨y, hy, rfl⟩ := List.mem_map.1 hu
  obtain ⟨h1, h2⟩ := List.mem_filter.1 hy
  refine ⟨y, h1, ?_, rfl⟩
  cases h : inU ((seenF ls us g).map (nowF ls)) y with
  | false => rfl
  | true => rw [h] at h2; cases h2
theorem sees_look {b : BoxP} {us : Us} (hb : rightB b = true) (h : Sees b us) (g : Bool) : Sees b (lookF b.ls us g).2 := by
  rw [look_is hb h g]
  refine ⟨List.pairwise_append.2 ⟨seen_rise h g, ?_, ?_⟩, ?_, ?_⟩
  · exact List.pairwise_map.2 ((right_rise hb).sublist List.filter_sublist)
  · intro u hu v hv
    obtain ⟨y, hy, hi, rfl⟩ := ext_mem hv
    rcases seen_all h g hy with hx | hx
    · rw [inU_iff.2 hx] at hi; cases hi
    · exact hx u hu
  · intro u hu
    rcases List.mem_append.1 hu with hu | hu
    · obtain ⟨v, hv, rfl⟩ := List.mem_map.1 hu
      rw [nowF_fst]
      exact h.low v ((seenF_sub b.ls us g).subset hv)
    · obtain ⟨y, hy, _, rfl⟩ := ext_mem hu
      exact right_uid hb hy
  · intro y hy
    refine Or.inl ?_
    cases hi : inU ((seenF b.ls us g).map (nowF b.ls)) y with
    | true =>
      obtain ⟨u, hu, e⟩ := inU_iff.1 hi
      exact ⟨u, List.mem_append_left _ hu, e⟩
    | false => exact ⟨(y.uid, y.flags), List.mem_append_right _ (List.mem_map.2 ⟨y, List.mem_filter.2 ⟨hy, by rw [hi]; rfl⟩, rfl⟩), rfl⟩
theorem look_has {b : BoxP} {us : Us} (hb : rightB b = true) (h : Sees b us) (g : Bool) {y : Let} (hy : y ∈ b.ls) : ∃ u ∈ (lookF b.ls us g).2, u.1 = y.uid := by
  rw [look_is hb h g]
  cases hi : inU ((seenF b.ls us g).map (nowF b.ls)) y with
  | true =>
    obtain ⟨u, hu, e⟩ := inU_iff.1 hi
    exact ⟨u, List.mem_append_left _ hu, e⟩
  | false => exact ⟨(y.uid, y.flags), List.mem_append_right _ (List.mem_map.2 ⟨y, List.mem_filter.2 ⟨hy, by rw [hi]; rfl⟩, rfl⟩), rfl⟩
theorem look_now {b : BoxP} {us : Us} (hb : rightB b = true) (h : Sees b us) (g : Bool) {u : Int × Fl} (hu : u ∈ (lookF b.ls us g).2) : nowF b.ls u = u := by
  rw [look_is hb h g] at hu
  rcases List.mem_append.1 hu with hu | hu
  · obtain ⟨v, _, rfl⟩ := List.mem_map.1 hu
    exact nowF_idem b.ls v
  · obtain ⟨y, hy, _, rfl⟩ := ext_mem hu
    exact nowF_mem hb hy _ rfl
theorem look_flags {b : BoxP} {us : Us} (hb : rightB b = true) (h : Sees b us) (g : Bool) {u : Int × Fl} (hu : u ∈ (lookF b.ls us g).2) {k : Nat} {x : Let} (hk : findB b.ls u.1 = some k) (hx : b.ls[k]? = some x) : x.flags = u.2 := by
  have := look_now hb h g hu
  rw [nowF_some hk hx] at this
  exact congrArg Prod.snd this
theorem look_found {b : BoxP} {us : Us} (hb : rightB b = true) (h : Sees b us) {u : Int × Fl} (hu : u ∈ (lookF b.ls us true).2) : foundB b.ls u = true := by
  rw [look_is hb h true] at hu
  rcases List.mem_append.1 hu with hu | hu
  · obtain ⟨v, hv, rfl⟩ := List.mem_map.1 hu
    have := (List.mem_filter.1 (show v ∈ us.filter (foundB b.ls) from hv)).2
    unfold foundB at this ⊢
    rw [nowF_fst]
    exact this
  · obtain ⟨y, hy, _, rfl⟩ := ext_mem hu
    exact found_iff.2 ⟨y, hy, rfl⟩
theorem look_many {b : BoxP} {us : Us} (hb : rightB b = true) (h : Sees b us) : (lookF b.ls us true).2.length = b.ls.length := by
  have e : (lookF b.ls us true).2.map (·.1) = b.ls.map (·.uid) := by
    refine rise_ext (List.pairwise_map.2 (sees_look hb h true).rise) (List.pairwise_map.2 (right_rise hb)) (fun x => ⟨fun hx => ?_, fun hx => ?_⟩)
    · obtain ⟨u, hu, rfl⟩ := List.mem_map.1 hx
      obtain ⟨y, hy, e⟩ := found_iff.1 (look_found hb h hu)
      exact List.mem_map.2 ⟨y, hy, e⟩
    · obtain ⟨y, hy, rfl⟩ := List.mem_map.1 hx
      obtain ⟨u, hu, e⟩ := look_has hb h true hy
      exact List.mem_map.2 ⟨u, hu, e⟩
  have := congrArg List.length e
  rwa [List.length_map, List.length_map] at this
theorem look_again {b : BoxP} {us : Us} (hb : rightB b = true) (h : Sees b us) (g : Bool) : lookF b.ls (lookF b.ls us g).2 g = ([], (lookF b.ls us g).2) := by
  have hnow := fun u (hu : u ∈ (lookF b.ls us g).2) => look_now hb h g hu
  have hs := sees_look hb h g
  have hh := fun y (hy : y ∈ b.ls) => look_has hb h g hy
  have hf : g = true → ∀ u ∈ (lookF b.ls us g).2, foundB b.ls u = true := fun e u hu => by subst e; exact look_found hb h hu
  generalize (lookF b.ls us g).2 = us3 at hnow hs hh hf ⊢
  have e1 : seenF b.ls us3 g = us3 := by
    unfold seenF
    split
    · rename_i e
      exact List.filter_eq_self.2 (hf e)
    · rfl
  have e2 : us3.map (nowF b.ls) = us3 := by
    conv => rhs; rw [← List.map_id us3]
    exact List.map_congr_left hnow
  have e3 : seeF b.ls us3 = us3 := by
    rw [seeF_is b.ls us3 (right_rise hb) hs.rise hs.all, List.filter_eq_nil_iff.2 (fun y hy => by rw [inU_iff.2 (hh y hy)]; decide)]
    simp
  show ((if g then goneL b.ls us3 us3.length else []) ++ (if (seenF b.ls us3 g).length < (seeF b.ls ((seenF b.ls us3 g).map (nowF b.ls))).length then _ else []) ++ chF b.ls 0 (seenF b.ls us3 g), seeF b.ls ((seenF b.ls us3 g).map (nowF b.ls))) = _
  rw [e1, e2, e3, if_neg (Nat.lt_irrefl _), chF_nil hnow]
  have e4 : (if g then goneL b.ls us3 us3.length else []) = [] := by
    split
    · rename_i e
      exact goneL_nil (hf e) _
    · rfl
  rw [e4]
  rfl
theorem look_tells {b : BoxP} {us : Us} (hb : rightB b = true) (h : Sees b us) (g : Bool) : Tells (lookF b.ls us g).2 b.ls g (us.map (·.2)) (lookF b.ls us g).1 ((lookF b.ls us g).2.map (·.2)) := by
  have hi := look_is hb h g
  have hfl : ∀ us3, Tells us3 b.ls g (us.map (·.2)) (if g then goneL b.ls us us.length else []) ((seenF b.ls us g).map (·.2)) := fun us3 => by
    cases g with
    | true =>
      have := tells_gone (ls := b.ls) (us := us) (us3 := us3) us.length (Nat.le_refl _)
      rw [Nat.sub_self, curL_none] at this
      exact this
    | false => exact rfl
  have hl : ((seenF b.ls us g).map (nowF b.ls)).length = (seenF b.ls us g).length := List.length_map ..
  have h3 := tells_flags (ls := b.ls) (us3 := (lookF b.ls us g).2) (all := g) (X := (extF b.ls us g).map (·.2)) (seenF b.ls us g) []
  have e3 : ((seenF b.ls us g).map (nowF b.ls)).map (·.2) ++ (extF b.ls us g).map (·.2) = (lookF b.ls us g).2.map (·.2) := by rw [hi, List.map_append]
  rw [List.nil_append, e3] at h3
  refine Tells.app (Tells.app (hfl _) ?_) h3
  show Tells _ b.ls g _ (if (seenF b.ls us g).length < (lookF b.ls us g).2.length then [⟨2, ((lookF b.ls us g).2.length : Nat), []⟩] else []) ((seenF b.ls us g).map (·.2) ++ (extF b.ls us g).map (·.2))
  have hd : (lookF b.ls us g).2.drop ((seenF b.ls us g).map (·.2)).length = extF b.ls us g := by rw [hi, List.length_map, ← hl, List.drop_left]
  by_cases hlt : (seenF b.ls us g).length < (lookF b.ls us g).2.length
  · rw [if_pos hlt]
    refine ⟨Or.inr (Or.inl ⟨rfl, ?_, rfl, ?_⟩), ?_⟩
    · rw [List.length_map]
      exact Int.ofNat_lt.2 hlt
    · rw [hd]
      intro u hu
      obtain ⟨y, hy, _, rfl⟩ := ext_mem hu
      exact found_iff.2 ⟨y, hy, rfl⟩
    · show _ = tell1 _ _ ⟨2, _, _⟩
      unfold tell1
      rw [if_neg (show ¬ ((2 : Int) = 1) by decide), if_pos rfl, hd]
  · rw [if_neg hlt]
    have he : extF b.ls us g = [] := by
      rw [hi, List.length_append, hl] at hlt
      exact List.length_eq_zero_iff.1 (by omega)
    show _ = _
    rw [he]
    simp
theorem look_len {b : BoxP} {us : Us} (hb : rightB b = true) (h : Sees b us) (g : Bool) : (lookF b.ls us g).2.length ≤ us.length + b.ls.length := by
  rw [look_is hb h g, List.length_append, List.length_map]
  have h1 := (seenF_sub b.ls us g).length_le
  have h2 : (extF b.ls us g).length ≤ b.ls.length := by
    unfold extF
    rw [List.length_map]
    exact List.length_filter_le _ _
  omega
theorem nowF_short {ls : List Let} {K : Nat} {u : Int × Fl} (hu : u.2.length ≤ K) (hl : ∀ x ∈ ls, x.flags.length ≤ K) : (nowF ls u).2.length ≤ K := by
  cases hk : findB ls u.1 with
  | none => rw [nowF_none hk]; exact hu
  | some k =>
    obtain ⟨x, hx, _⟩ := findB_some hk
    rw [nowF_some hk hx]
    exact hl x (List.mem_of_getElem? hx)
theorem look_short {b : BoxP} {us : Us} (hb : rightB b = true) (h : Sees b us) (g : Bool) {K : Nat} (hu : ∀ u ∈ us, u.2.length ≤ K) (hl : ∀ x ∈ b.ls, x.flags.length ≤ K) : ∀ u ∈ (lookF b.ls us g).2, u.2.length ≤ K := by
  intro u hm
  rw [look_is hb h g] at hm
  rcases List.mem_append.1 hm with hm | hm
  · obtain ⟨v, hv, rfl⟩ := List.mem_map.1 hm
    exact nowF_short (hu v ((seenF_sub b.ls us g).subset hv)) hl
  · obtain ⟨y, hy, _, rfl⟩ := ext_mem hm
    exact hl y hy
end Go.Proofs.YteabnpahhkicaaaDoor
