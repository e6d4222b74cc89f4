/- Plain laws: what was read as a command may be written, and is then read and cut off as it was. No program in sight; no condition beyond those each names. -/
import Derived.Test.YtbfndlmihijcgaaGreatDoorPRead2
namespace Go.Proofs.YtbfndlmihijcgaaGreatDoor

theorem dec_len_le (n : Nat) (h : 1 ≤ n) : (Lib.decDigits n).length ≤ n := by
  induction n using Nat.strongRecOn with
  | _ n ih =>
    by_cases h1 : n < 10
    · rw [dec_small h1]; exact h
    · rw [dec_big h1, List.length_append]
      have := ih (n / 10) (by omega) (by omega)
      simp only [List.length_cons, List.length_nil]
      omega
theorem esc_len : ∀ s : List UInt8, (escL s).length ≤ 2 * s.length
  | [] => Nat.le_refl _
  | c :: s => by
    have ih := esc_len s
    have e : escL (c :: s) = (if c = 92 then [92, 92] else if c = 34 then [92, 34] else [c]) ++ escL s := rfl
    rw [e, List.length_append, List.length_cons]
    have : (if c = 92 then [92, 92] else if c = 34 then [92, 34] else [c] : List UInt8).length ≤ 2 := by
      split
      · exact Nat.le_refl _
      · split
        · exact Nat.le_refl _
        · exact Nat.le_succ _
    omega
theorem text_len (t : List UInt8) : (textF (.mk 2 t [])).length ≤ 2 * t.length + 4 := by
  have e1 : textF (.mk 2 t []) = if rawB t then rawL t else quotedL t := by rw [textF]; rfl
  rw [e1]
  cases hb : rawB t with
  | true =>
    rw [if_pos rfl]
    have h0 : 1 ≤ t.length := by
      cases t with
      | nil => exact absurd hb (by decide)
      | cons c t => simp
    have h1 := dec_len_le t.length h0
    have h2 : (rawL t).length = (Lib.decDigits t.length).length + 4 + t.length := by simp [rawL, litL_len]; omega
    omega
  | false =>
    rw [if_neg (by decide)]
    have := esc_len t
    have h2 : (quotedL t).length = (escL t).length + 2 := by simp [quotedL]
    omega
theorem quo_len : ∀ (l : List UInt8) (i : Nat) (t : List UInt8) (j : Nat), quoL l i = .ok (t, j) → i + t.length + 1 ≤ j
  | [], i, t, j, h => by rw [quoL] at h; cases h
  | [c], i, t, j, h => by
    by_cases h34 : c = 34
    · subst h34
      rw [quoL] at h
      cases h; simp
    · by_cases h92 : c = 92
      · subst h92; rw [quoL] at h; cases h
      · rw [quoL] at h
        · split at h
          · cases h
          · rw [quoL] at h; cases h
        · exact h34
        · exact fun e _ => h92 e
        · exact fun d r e => absurd e h92
  | c :: d :: r, i, t, j, h => by
    by_cases h34 : c = 34
    · subst h34
      rw [quoL] at h
      cases h; simp
    · by_cases h92 : c = 92
      · subst h92
        rw [quoL] at h
        split at h
        · cases hq : quoL r (i + 2) with
          | error e => rw [hq] at h; cases h
          | ok p =>
            obtain ⟨t', j'⟩ := p
            rw [hq] at h
            cases h
            have := quo_len r (i + 2) t' _ hq
            simp only [List.length_cons]; omega
        · cases h
      · rw [quoL] at h
        · split at h
          · cases h
          · cases hq : quoL (d :: r) (i + 1) with
            | error e => rw [hq] at h; cases h
            | ok p =>
              obtain ⟨t', j'⟩ := p
              rw [hq] at h
              cases h
              have := quo_len (d :: r) (i + 1) t' _ hq
              simp only [List.length_cons]; omega
        · exact h34
        · exact fun e _ => h92 e
        · exact fun d r e => absurd e h92
theorem byt_len {S : List UInt8} {a b : Nat} {t : List UInt8} (h : bytF S a = some (t, b)) : a + t.length + 2 ≤ b ∧ b ≤ S.length := by
  unfold bytF at h
  split at h
  · cases h
  · split at h
    · cases h
    · split at h
      · cases h
      · split at h
        · cases h
        · rename_i hn
          have h' := Option.some.inj h
          rw [Prod.mk.injEq] at h'
          obtain ⟨h1, h2⟩ := h'
          rw [← h1, List.length_take]
          omega
theorem fit_read (S : List UInt8) : ∀ f : Nat, (∀ (d a n : Nat) (x : ArgP) (b m : Nat), argF S f d a n = .ok (x, b, m) → ∀ e, d + e = 6 → FitA e x ∧ m = n + sizeA x ∧ m ≤ 60 ∧ a < b ∧ (textF x).length ≤ 2 * (b - a)) ∧
    (∀ (d a n : Nat) (acc : List ArgP) (x : ArgP) (b m : Nat), listF S f d a n acc = .ok (x, b, m) → ∀ e, d + e = 6 → n ≤ 60 → ∃ l, x = .mk 3 [] (acc ++ l) ∧ FitL e l ∧ m = n + sizeL l ∧ m ≤ 60 ∧ a < b ∧ (if acc = [] then (joinF l).length else (tailF l).length) ≤ 2 * (b - a - 1)) := by
  intro f
  induction f with
  | zero => exact ⟨(fun d a n x b m h => by rw [argF] at h; cases h), (fun d a n acc x b m h => by rw [listF] at h; cases h)⟩
  | succ f ih =>
    obtain ⟨ih1, ih2⟩ := ih
    constructor
    · intro d a n x b m h e hde
      by_cases hn : 60 < n + 1 ∨ 6 < d
      · rw [argF, if_pos hn] at h; cases h
      · cases hc : (bodyL S)[a]? with
        | none => rw [argF, if_neg hn, hc] at h; cases h
        | some c =>
          rw [arg_head (by omega) (by omega) hc] at h
          split at h
          · split at h
            · cases h
            · rename_i t j hq
              cases h
              have h1 := quo_len _ _ _ _ hq
              have h2 := text_len t
              refine ⟨by unfold FitA; exact Or.inr (Or.inl ⟨rfl, rfl⟩), by simp [sizeA, sizeL], by omega, by omega, by omega⟩
          · split at h
            · split at h
              · cases h
              · rename_i t j hq
                cases h
                have h1 := (byt_len hq).1
                have h2 := text_len t
                refine ⟨by unfold FitA; exact Or.inr (Or.inl ⟨rfl, rfl⟩), by simp [sizeA, sizeL], by omega, by omega, by omega⟩
            · split at h
              · obtain ⟨l, rfl, h1, h2, h3, h4, h5⟩ := ih2 d (a + 1) (n + 1) [] x b m h e hde (by omega)
                rw [if_pos rfl] at h5
                have e1 : textF (.mk 3 [] ([] ++ l)) = 40 :: (joinF l ++ [41]) := by rw [textF]; rfl
                refine ⟨by unfold FitA; exact Or.inr (Or.inr ⟨rfl, rfl, h1⟩), by rw [sizeA, List.nil_append]; omega, h3, by omega, ?_⟩
                rw [e1]
                simp only [List.length_cons, List.length_append, List.length_nil]
                omega
              · split at h
                · cases h
                · rename_i hw
                  cases h
                  have e1 : textF (.mk 1 (wordL S a) []) = wordL S a := by rw [textF]; rfl
                  have h0 : 0 < (wordL S a).length := List.length_pos_iff.2 hw
                  refine ⟨?_, by simp [sizeA, sizeL], by omega, by omega, by rw [e1]; omega⟩
                  unfold FitA
                  exact Or.inl ⟨rfl, hw, fun c hc => by
                    unfold wordL at hc
                    exact List.all_eq_true.1 (List.all_takeWhile (l := (bodyL S).drop a) (p := atomB)) c hc, rfl⟩
    · intro d a n acc x b m h e hde hn
      rw [listF] at h
      split at h
      · cases h
        refine ⟨[], by simp, by rw [FitL]; trivial, by simp [sizeL], by omega, by omega, by split <;> simp [joinF, tailF]⟩
      · split at h
        · cases h
        · rename_i hb
          cases hq : argF S f (d + 1) (if acc = [] then a else a + 1) n with
          | error e' => rw [hq] at h; cases h
          | ok p =>
            obtain ⟨y, b1, m1⟩ := p
            rw [hq] at h
            dsimp only at h
            have hd6 : d + 1 ≤ 6 := by
              rcases Nat.lt_or_ge 6 (d + 1) with h' | h'
              · cases f with
                | zero => rw [argF] at hq; cases hq
                | succ f => rw [argF, if_pos (Or.inr h')] at hq; cases hq
              · exact h'
            obtain ⟨h1, h2, h3, h4, h5⟩ := ih1 _ _ _ _ _ _ hq (e - 1) (by omega)
            obtain ⟨l, rfl, g1, g2, g3, g4, g5⟩ := ih2 d b1 m1 (acc ++ [y]) x b m h e hde h3
            rw [if_neg (by simp)] at g5
            refine ⟨y :: l, by simp, by rw [FitL]; exact ⟨⟨e - 1, by omega, h1⟩, g1⟩, by rw [sizeL]; omega, g3, ?_, ?_⟩
            · split at h4 <;> omega
            · by_cases ha : acc = []
              · rw [if_pos ha] at h4 h5 ⊢
                rw [joinF, List.length_append]; omega
              · rw [if_neg ha] at h4 h5 ⊢
                rw [tailF, List.length_cons, List.length_append]; omega
theorem fit_args (S : List UInt8) : ∀ (f a n : Nat) (acc l : List ArgP) (b : Nat), argsF S f a n acc = .ok (l, b) → n ≤ 60 → ∃ k, l = acc ++ k ∧ FitL 7 k ∧ n + sizeL k ≤ 60 ∧ a ≤ b ∧ (tailF k).length ≤ 2 * (b - a) := by
  intro f
  induction f with
  | zero => intro a n acc l b h; rw [argsF] at h; cases h
  | succ f ih =>
    intro a n acc l b h hn
    rw [argsF] at h
    split at h
    · cases h
      exact ⟨[], by simp, by rw [FitL]; trivial, by simp [sizeL]; omega, Nat.le_refl _, by simp [tailF]⟩
    · split at h
      · cases h
      · cases hq : argF S 200 0 (a + 1) n with
        | error e' => rw [hq] at h; cases h
        | ok p =>
          obtain ⟨y, b1, m1⟩ := p
          rw [hq] at h
          dsimp only at h
          obtain ⟨h1, h2, h3, h4, h5⟩ := (fit_read S 200).1 _ _ _ _ _ _ hq 6 rfl
          obtain ⟨k, rfl, g1, g2, g3, g4⟩ := ih b1 m1 (acc ++ [y]) l b h h3
          refine ⟨y :: k, by simp, by rw [FitL]; exact ⟨⟨6, rfl, h1⟩, g1⟩, by rw [sizeL]; omega, by omega, ?_⟩
          rw [tailF, List.length_cons, List.length_append]; omega
theorem up_atom (c : UInt8) (h : atomB c = true) : atomB (if 97 ≤ c.toNat ∧ c.toNat ≤ 122 then c - 32 else c) = true := by
  have : ∀ n : Fin 256, atomB (UInt8.ofNat n.val) = true → atomB (if 97 ≤ (UInt8.ofNat n.val).toNat ∧ (UInt8.ofNat n.val).toNat ≤ 122 then UInt8.ofNat n.val - 32 else UInt8.ofNat n.val) = true := by decide +kernel
  have e := this ⟨c.toNat, c.toNat_lt⟩
  simp only [UInt8.ofNat_toNat] at e
  exact e h
theorem up_up (c : UInt8) : (fun c : UInt8 => if 97 ≤ c.toNat ∧ c.toNat ≤ 122 then c - 32 else c) (if 97 ≤ c.toNat ∧ c.toNat ≤ 122 then c - 32 else c) = if 97 ≤ c.toNat ∧ c.toNat ≤ 122 then c - 32 else c := by
  have : ∀ n : Fin 256, (fun c : UInt8 => if 97 ≤ c.toNat ∧ c.toNat ≤ 122 then c - 32 else c) (if 97 ≤ (UInt8.ofNat n.val).toNat ∧ (UInt8.ofNat n.val).toNat ≤ 122 then UInt8.ofNat n.val - 32 else UInt8.ofNat n.val) = if 97 ≤ (UInt8.ofNat n.val).toNat ∧ (UInt8.ofNat n.val).toNat ≤ 122 then UInt8.ofNat n.val - 32 else UInt8.ofNat n.val := by decide +kernel
  have e := this ⟨c.toNat, c.toNat_lt⟩
  simp only [UInt8.ofNat_toNat] at e
  exact e
theorem upL_up (l : List UInt8) : upL (upL l) = upL l := by
  unfold upL
  rw [List.map_map]
  exact List.map_congr_left fun c _ => up_up c
theorem word_atoms (S : List UInt8) (a : Nat) : ∀ c ∈ wordL S a, atomB c = true := fun c hc => by
  unfold wordL at hc
  exact List.all_eq_true.1 (List.all_takeWhile (l := (bodyL S).drop a) (p := atomB)) c hc
theorem parse_parts {S tag nm : List UInt8} {l : List ArgP} (h : parseF S = .ok (tag, nm, l)) : tag ≠ [] ∧ (∀ c ∈ tag, atomB c = true) ∧ nm ≠ [] ∧ (∀ c ∈ nm, atomB c = true) ∧ upL nm = nm ∧ FitL 7 l ∧ sizeL l ≤ 60 ∧ (lineF tag nm l).length + 2 ≤ 2 * S.length := by
  unfold parseF at h
  split at h
  · cases h
  · split at h
    · cases h
    · rename_i h1
      split at h
      · cases h
      · split at h
        · cases h
        · rename_i h2
          split at h
          · cases h
          · rename_i l' a' hq
            split at h
            · rename_i hend
              cases h
              obtain ⟨k, hk, g1, g2, g3, g4⟩ := fit_args S _ _ _ _ _ _ hq (by decide)
              rw [List.nil_append] at hk
              subst hk
              refine ⟨h1, word_atoms S 0, ?_, ?_, upL_up _, g1, by omega, ?_⟩
              · intro e
                unfold upL at e
                exact h2 (List.map_eq_nil_iff.1 e)
              · intro c hc
                unfold upL at hc
                obtain ⟨x, hx, rfl⟩ := List.mem_map.1 hc
                exact up_atom x (word_atoms S _ x hx)
              · have : (upL (wordL S ((wordL S 0).length + 1))).length = (wordL S ((wordL S 0).length + 1)).length := by simp [upL]
                unfold lineF
                simp only [List.length_append, List.length_cons, this]
                omega
            · cases h
/-- a command that was read, written again -/
theorem back_law {S tag nm : List UInt8} {l : List ArgP} (h : parseF S = .ok (tag, nm, l)) (hS : S.length ≤ 800) : parseF (lineF tag nm l ++ [13, 10]) = .ok (tag, nm, l) ∧ (lineF tag nm l ++ [13, 10]).length ≤ 1600 ∧
    (∀ r, ∃ k, nextF (lineF tag nm l ++ 13 :: 10 :: r) ((lineF tag nm l ++ 13 :: 10 :: r).length + 1) 0 0 = ((lineF tag nm l).length + 2, k, false)) ∧
    ∀ j, j < (lineF tag nm l ++ [13, 10]).length → ∃ k, nextF ((lineF tag nm l ++ [13, 10]).take j) (((lineF tag nm l ++ [13, 10]).take j).length + 1) 0 0 = (0, k, false) := by
  obtain ⟨h1, h2, h3, h4, h5, h6, h7, h8⟩ := parse_parts h
  obtain ⟨k, hk⟩ := chunk_line h2 h4 h6 (by omega)
  have hlen : (lineF tag nm l ++ [13, 10]).length = (lineF tag nm l).length + 2 := by simp
  refine ⟨?_, by omega, fun r => ⟨k, next_whole hk r (by omega)⟩, fun j hj => ?_⟩
  · have := parse_line h1 h2 h3 h4 h6 h7 (by omega)
    rw [h5] at this
    exact this
  · have hw := next_whole hk [] (by omega)
    have hp := piece_all (lineF tag nm l ++ [13, 10]) j (by omega) (by omega)
    rw [hw] at hp
    obtain ⟨hp1, hp2⟩ := hp
    obtain ⟨R, hR⟩ : ∃ R, nextF ((lineF tag nm l ++ [13, 10]).take j) (((lineF tag nm l ++ [13, 10]).take j).length + 1) 0 0 = R := ⟨_, rfl⟩
    rw [hR] at hp1 hp2 ⊢
    obtain ⟨x, y, z⟩ := R
    dsimp only at hp1 hp2
    cases z with
    | true => exact absurd (hp1 rfl) (by decide)
    | false =>
      obtain ⟨g1, g2, g3, g4⟩ := hp2 rfl rfl
      refine ⟨y, ?_⟩
      rcases g2 with rfl | ⟨g2, _⟩
      · rfl
      · omega
end Go.Proofs.YtbfndlmihijcgaaGreatDoor
