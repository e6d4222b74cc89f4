/- Plain facts on names in letters that go everywhere: runes of a text, bits in sixes and sixteens, units and surrogates, what is written and what is read. No program in sight; no condition beyond those each lemma names. -/
import Derived.Lib.MapLaws
import Derived.Lib.ValidU
import Derived.Shelf.GgClosure.StringsIndexFunc
namespace Go.Proofs.YtdlfbhbgemoelaaGreatDoor
open Go.Lib

/-! ### runes of a text -/
def runesF : Nat → List UInt8 → List Nat
  | 0, _ => []
  | n + 1, l => if l = [] then [] else (decodeL l).1 :: runesF n (l.drop (decodeL l).2)
def runesL (l : List UInt8) : List Nat := runesF l.length l

theorem runesF_nil : ∀ n, runesF n [] = []
  | 0 => rfl
  | _ + 1 => by simp [runesF]
theorem runesF_fuel : ∀ (n m : Nat) (l : List UInt8), l.length ≤ n → l.length ≤ m → runesF n l = runesF m l
  | 0, m, l, hn, _ => by
    have : l = [] := List.eq_nil_of_length_eq_zero (by omega)
    subst this; rw [runesF_nil, runesF_nil]
  | n + 1, 0, l, _, hm => by
    have : l = [] := List.eq_nil_of_length_eq_zero (by omega)
    subst this; rw [runesF_nil, runesF_nil]
  | n + 1, m + 1, l, hn, hm => by
    by_cases hne : l = []
    · subst hne; rw [runesF_nil, runesF_nil]
    · have hw := decodeL_width l
      have hl : 0 < l.length := List.length_pos_iff.2 hne
      simp only [runesF, if_neg hne]
      rw [runesF_fuel n m _ (by rw [List.length_drop]; omega) (by rw [List.length_drop]; omega)]
theorem runesL_nil : runesL [] = [] := rfl
theorem runesL_step (l : List UInt8) (hne : l ≠ []) : runesL l = (decodeL l).1 :: runesL (l.drop (decodeL l).2) := by
  have hw := decodeL_width l
  have hl : 0 < l.length := List.length_pos_iff.2 hne
  unfold runesL
  obtain ⟨n, hn⟩ : ∃ n, l.length = n + 1 := ⟨l.length - 1, by omega⟩
  rw [hn]
  simp only [runesF, if_neg hne]
  rw [runesF_fuel n _ _ (by rw [List.length_drop]; omega) (Nat.le_refl _)]
theorem runesL_at (s : ByteArray) (pos : Nat) (h : pos < s.size) : runesL (s.data.toList.drop pos) = (Utf8.decode s pos).1 :: runesL (s.data.toList.drop (pos + (Utf8.decode s pos).2)) := by
  have hne : s.data.toList.drop pos ≠ [] := by
    intro h0
    have := congrArg List.length h0
    rw [List.length_drop, ← size_eq] at this
    simp at this
    omega
  rw [runesL_step _ hne, decodeL_drop, List.drop_drop]
theorem runesL_end (s : ByteArray) (pos : Nat) (h : ¬ pos < s.size) : runesL (s.data.toList.drop pos) = [] := by
  rw [List.drop_eq_nil_of_le (by rw [← size_eq]; omega)]; rfl
theorem runesL_le (l : List UInt8) : ∀ r ∈ runesL l, r ≤ 1114111 := by
  intro r hr
  unfold runesL at hr
  generalize l.length = n at hr
  induction n generalizing l with
  | zero => simp [runesF] at hr
  | succ n ih =>
    unfold runesF at hr
    split at hr
    · simp at hr
    · rcases List.mem_cons.1 hr with rfl | hr
      · exact decodeL_rune l
      · exact ih _ hr
theorem runesF_length : ∀ (n : Nat) (l : List UInt8), l.length ≤ n → (runesF n l).length ≤ l.length
  | 0, _, _ => by simp [runesF]
  | n + 1, l, hn => by
    unfold runesF
    split
    · simp
    · rename_i hne
      have hw := decodeL_width l
      have hl : 0 < l.length := List.length_pos_iff.2 hne
      have := runesF_length n (l.drop (decodeL l).2) (by rw [List.length_drop]; omega)
      rw [List.length_drop] at this
      simp only [List.length_cons]
      omega
theorem runesL_length (l : List UInt8) : (runesL l).length ≤ l.length := runesF_length _ _ (Nat.le_refl _)

theorem validGoD_nil : ∀ n, validGoD n [] = true
  | 0 => rfl
  | _ + 1 => by simp [validGoD]
theorem validGoD_fuel : ∀ (n m : Nat) (l : List UInt8), l.length ≤ n → l.length ≤ m → validGoD n l = validGoD m l
  | 0, m, l, hn, _ => by
    have : l = [] := List.eq_nil_of_length_eq_zero (by omega)
    subst this; rw [validGoD_nil, validGoD_nil]
  | n + 1, 0, l, _, hm => by
    have : l = [] := List.eq_nil_of_length_eq_zero (by omega)
    subst this; rw [validGoD_nil, validGoD_nil]
  | n + 1, m + 1, l, hn, hm => by
    by_cases hne : l = []
    · subst hne; rw [validGoD_nil, validGoD_nil]
    · have hw := decodeL_width l
      have hl : 0 < l.length := List.length_pos_iff.2 hne
      simp only [validGoD, if_neg hne]
      rw [validGoD_fuel n m _ (by rw [List.length_drop]; omega) (by rw [List.length_drop]; omega)]
theorem validD_step (l : List UInt8) (hne : l ≠ []) : validD l = if (decodeL l).1 = 65533 ∧ (decodeL l).2 = 1 then false else validD (l.drop (decodeL l).2) := by
  have hw := decodeL_width l
  have hl : 0 < l.length := List.length_pos_iff.2 hne
  unfold validD
  obtain ⟨n, hn⟩ : ∃ n, l.length = n + 1 := ⟨l.length - 1, by omega⟩
  rw [hn]
  simp only [validGoD, if_neg hne]
  rw [validGoD_fuel n _ _ (by rw [List.length_drop]; omega) (Nat.le_refl _)]

/-- a text's runes, written, are the text -/
def textOf (rs : List Nat) : List UInt8 := rs.flatMap fun (r : Nat) => encodeRune (r : Int)
theorem text_runes : ∀ (n : Nat) (l : List UInt8), l.length ≤ n → validD l = true → textOf (runesL l) = l
  | 0, l, hn, _ => by
    have : l = [] := List.eq_nil_of_length_eq_zero (by omega)
    subst this; rfl
  | n + 1, l, hn, hv => by
    by_cases hne : l = []
    · subst hne; rfl
    · have hw := decodeL_width l
      have hl : 0 < l.length := List.length_pos_iff.2 hne
      rw [validD_step l hne] at hv
      split at hv
      · simp at hv
      · rename_i hb
        have ih := text_runes n (l.drop (decodeL l).2) (by rw [List.length_drop]; omega) hv
        rw [runesL_step l hne]
        unfold textOf at ih ⊢
        rw [List.flatMap_cons, ih, encode_decode l hne hb, List.take_append_drop]
/-- valid runes: no surrogates -/
def scalar (r : Nat) : Prop := r < 55296 ∨ (57344 ≤ r ∧ r ≤ 1114111)
theorem decodeL_scalar (l : List UInt8) : scalar (decodeL l).1 := by
  unfold scalar
  rw [decodeL_N]
  have k0 := (l.getD 0 0).toNat_lt
  have k1 := (l.getD 1 0).toNat_lt
  rcases decodeN_shape l.length (l.getD 0 0).toNat (l.getD 1 0).toNat (l.getD 2 0).toNat (l.getD 3 0).toNat with ⟨c, e⟩ | ⟨c1, c2, c3, cv, e⟩ | ⟨c1, c2, c3, c4, cv, cs, e⟩ | ⟨c1, c2, c3, c4, c5, cv, cw, e⟩ | e
  all_goals (rw [e]; dsimp only; omega)
theorem width4 (s : ByteArray) (pos : Nat) : (Utf8.decode s pos).2 ≤ 4 := by
  rw [decode_N]
  rcases decodeN_shape (s.data.toList.length - pos) (s.data.toList.getD pos 0).toNat (s.data.toList.getD (pos + 1) 0).toNat (s.data.toList.getD (pos + 2) 0).toNat (s.data.toList.getD (pos + 3) 0).toNat with ⟨c, e⟩ | ⟨c1, c2, c3, cv, e⟩ | ⟨c1, c2, c3, c4, cv, cs, e⟩ | ⟨c1, c2, c3, c4, c5, cv, cw, e⟩ | e
  all_goals (rw [e]; dsimp only; omega)
theorem runesL_scalar (l : List UInt8) : ∀ r ∈ runesL l, scalar r := by
  intro r hr
  unfold runesL at hr
  generalize l.length = n at hr
  induction n generalizing l with
  | zero => simp [runesF] at hr
  | succ n ih =>
    unfold runesF at hr
    split at hr
    · simp at hr
    · rcases List.mem_cons.1 hr with rfl | hr
      · exact decodeL_scalar l
      · exact ih _ hr
theorem idxFrom_neg (p : Nat → Bool) (s : ByteArray) : ∀ (f pos : Nat), s.size ≤ pos + f → (idxFuncFrom p true s f pos < 0 ↔ ∀ r ∈ runesL (s.data.toList.drop pos), p r = false)
  | 0, pos, h => by
    rw [runesL_end s pos (by omega)]; simp [idxFuncFrom]
  | f + 1, pos, h => by
    by_cases hp : pos < s.size
    · have hw := width_pos s pos
      rw [runesL_at s pos hp]
      simp only [idxFuncFrom, if_pos hp]
      cases hc : p (Utf8.decode s pos).1
      · rw [if_neg (by simp), idxFrom_neg p s f _ (by omega)]
        simp [hc]
      · simp [hc]
    · rw [runesL_end s pos hp, idxFuncFrom_end p true s (f + 1) pos hp]; simp
theorem idx_neg (p : Nat → Bool) (s : ByteArray) : (idxFunc p true s < 0 ↔ ∀ r ∈ runesL s.data.toList, p r = false) := by
  have := idxFrom_neg p s s.size 0 (by omega)
  rwa [List.drop_zero] at this

/-! ### which names may be -/
def badRune (r : Nat) : Bool := decide (r < 32) || (decide (127 ≤ r) && decide (r < 160))
def rightL (l : List UInt8) : Bool := !l.isEmpty && (decide (l.length ≤ 60) && (validD l && (runesL l).all fun r => !badRune r))

/-! ### bits -/
def bitsOf : Nat → Nat → List Bool
  | 0, _ => []
  | k + 1, a => (a / 2 ^ k % 2 == 1) :: bitsOf k a
def valOf : List Bool → Nat
  | [] => 0
  | b :: l => b.toNat * 2 ^ l.length + valOf l
theorem bitsOf_length : ∀ k a, (bitsOf k a).length = k
  | 0, _ => rfl
  | k + 1, a => by simp [bitsOf, bitsOf_length k a]
theorem bitsOf_mod : ∀ k a j, k ≤ j → bitsOf k (a % 2 ^ j) = bitsOf k a
  | 0, _, _, _ => rfl
  | k + 1, a, j, h => by
    simp only [bitsOf]
    rw [bitsOf_mod k a j (by omega)]
    congr 2
    have : 2 ^ j = 2 ^ k * (2 ^ (j - k)) := by rw [← Nat.pow_add]; congr 1; omega
    rw [this, Nat.mod_mul_right_div_self]
    have h2 : 2 ^ (j - k) = 2 * 2 ^ (j - k - 1) := by rw [Nat.mul_comm, ← Nat.pow_succ]; congr 1; omega
    rw [h2, Nat.mod_mul_right_mod]
theorem bitsOf_add : ∀ j k a, bitsOf (j + k) a = bitsOf j (a / 2 ^ k) ++ bitsOf k a
  | 0, k, a => by simp [bitsOf]
  | j + 1, k, a => by
    rw [Nat.add_right_comm]
    simp only [bitsOf, List.cons_append]
    rw [bitsOf_add j k a, Nat.div_div_eq_div_mul, ← Nat.pow_add, Nat.add_comm k j]
theorem valOf_lt : ∀ l, valOf l < 2 ^ l.length
  | [] => by simp [valOf]
  | b :: l => by
    have := valOf_lt l
    simp only [valOf, List.length_cons, Nat.pow_succ]
    cases b <;> simp <;> omega
theorem bitsOf_val : ∀ l, bitsOf l.length (valOf l) = l
  | [] => rfl
  | b :: l => by
    have hl := valOf_lt l
    have h0 : 0 < 2 ^ l.length := Nat.two_pow_pos _
    simp only [List.length_cons, bitsOf, valOf]
    have e1 : (b.toNat * 2 ^ l.length + valOf l) / 2 ^ l.length = b.toNat := by
      rw [Nat.mul_comm, Nat.mul_add_div h0, Nat.div_eq_of_lt hl]; simp
    have e2 : bitsOf l.length (b.toNat * 2 ^ l.length + valOf l) = bitsOf l.length (valOf l) := by
      rw [← bitsOf_mod l.length (b.toNat * 2 ^ l.length + valOf l) l.length (Nat.le_refl _), Nat.mul_comm, Nat.mul_add_mod, Nat.mod_eq_of_lt hl]
    rw [e1, e2, bitsOf_val l]
    cases b <;> simp
theorem valOf_bits : ∀ k a, a < 2 ^ k → valOf (bitsOf k a) = a
  | 0, a, h => by simp at h; subst h; rfl
  | k + 1, a, h => by
    simp only [bitsOf, valOf, bitsOf_length]
    have h0 : 0 < 2 ^ k := Nat.two_pow_pos _
    rw [← bitsOf_mod k a k (Nat.le_refl _), valOf_bits k (a % 2 ^ k) (Nat.mod_lt _ h0)]
    have hd : a / 2 ^ k < 2 := by rw [Nat.div_lt_iff_lt_mul h0]; rw [Nat.pow_succ] at h; omega
    have e : (a / 2 ^ k % 2 == 1).toNat = a / 2 ^ k := by
      generalize a / 2 ^ k = q at hd
      have : q = 0 ∨ q = 1 := by omega
      rcases this with h | h <;> rw [h] <;> rfl
    rw [e, Nat.mul_comm]
    exact Nat.div_add_mod a (2 ^ k)
theorem bits_inj (k : Nat) (a b : Nat) (ha : a < 2 ^ k) (hb : b < 2 ^ k) (h : bitsOf k a = bitsOf k b) : a = b := by
  rw [← valOf_bits k a ha, ← valOf_bits k b hb, h]
def allBits (k : Nat) (l : List Nat) : List Bool := l.flatMap (bitsOf k)
theorem allBits_cons (k a : Nat) (l : List Nat) : allBits k (a :: l) = bitsOf k a ++ allBits k l := rfl
theorem allBits_append (k : Nat) (a b : List Nat) : allBits k (a ++ b) = allBits k a ++ allBits k b := by simp [allBits]
theorem allBits_length (k : Nat) : ∀ l, (allBits k l).length = k * l.length
  | [] => by simp [allBits]
  | a :: l => by rw [allBits_cons, List.length_append, bitsOf_length, allBits_length k l, List.length_cons, Nat.mul_succ]; omega
/-- what stands in k bits each is known by its bits, but for fewer than k that are left -/
theorem allBits_inj (k : Nat) : ∀ (a b : List Nat) (r q : List Bool), (∀ x ∈ a, x < 2 ^ k) → (∀ x ∈ b, x < 2 ^ k) → r.length < k → q.length < k → allBits k a ++ r = allBits k b ++ q → a = b ∧ r = q
  | [], [], r, q, _, _, _, _, h => ⟨rfl, by simpa [allBits] using h⟩
  | [], y :: b, r, q, _, _, hr, _, h => by
    have := congrArg List.length h
    simp only [List.length_append, allBits_length, List.length_cons, List.length_nil, Nat.mul_succ] at this
    omega
  | x :: a, [], r, q, _, _, _, hq, h => by
    have := congrArg List.length h
    simp only [List.length_append, allBits_length, List.length_cons, List.length_nil, Nat.mul_succ] at this
    omega
  | x :: a, y :: b, r, q, ha, hb, hr, hq, h => by
    rw [allBits_cons, allBits_cons, List.append_assoc, List.append_assoc] at h
    have h1 := List.append_inj h (by rw [bitsOf_length, bitsOf_length])
    have e := bits_inj k x y (ha x (by simp)) (hb y (by simp)) h1.1
    have ih := allBits_inj k a b r q (fun z hz => ha z (List.mem_cons_of_mem _ hz)) (fun z hz => hb z (List.mem_cons_of_mem _ hz)) hr hq h1.2
    exact ⟨by rw [e, ih.1], ih.2⟩

/-! ### units -/
def unitsOf (r : Nat) : List Nat := if r < 65536 then [r] else [55296 + (r - 65536) / 1024, 56320 + (r - 65536) % 1024]
theorem unitsOf_small (r : Nat) (h : r < 65536) : unitsOf r = [r] := by simp only [unitsOf, if_pos h]
theorem unitsOf_great (r : Nat) (h : ¬ r < 65536) : unitsOf r = [55296 + (r - 65536) / 1024, 56320 + (r - 65536) % 1024] := by simp only [unitsOf, if_neg h]
theorem unitsOf_lt (r : Nat) (h : r ≤ 1114111) : ∀ u ∈ unitsOf r, u < 65536 := by
  intro u hu
  by_cases hr : r < 65536
  · rw [unitsOf_small r hr, List.mem_singleton] at hu; omega
  · rw [unitsOf_great r hr, List.mem_cons, List.mem_singleton] at hu; omega
/-- units taken together to runes; none: a surrogate stands alone -/
def pairU : List Nat → Option (List Nat)
  | [] => some []
  | [u] => if 55296 ≤ u ∧ u < 57344 then none else some [u]
  | u :: v :: l =>
    if 55296 ≤ u ∧ u < 57344 then
      if 56320 ≤ u ∨ v < 56320 ∨ 57344 ≤ v then none else (pairU l).map ((65536 + (u % 1024) * 1024 + v % 1024) :: ·)
    else (pairU (v :: l)).map (u :: ·)
theorem pairU_one (u : Nat) (l : List Nat) (h : ¬ (55296 ≤ u ∧ u < 57344)) : pairU (u :: l) = (pairU l).map (u :: ·) := by
  cases l with
  | nil => simp only [pairU, if_neg h]; rfl
  | cons v l => simp only [pairU, if_neg h]
theorem pairU_units : ∀ l : List Nat, (∀ r ∈ l, scalar r) → pairU (l.flatMap unitsOf) = some l
  | [], _ => rfl
  | r :: l, h => by
    have ih := pairU_units l (fun x hx => h x (List.mem_cons_of_mem _ hx))
    have hr := h r (by simp)
    unfold scalar at hr
    rw [List.flatMap_cons]
    by_cases hs : r < 65536
    · rw [unitsOf_small r hs, List.singleton_append, pairU_one _ _ (by omega), ih]; rfl
    · rw [unitsOf_great r hs]
      simp only [List.cons_append, List.nil_append, pairU]
      rw [if_pos (by omega), if_neg (by omega), ih]
      simp only [Option.map_some, Option.some.injEq, List.cons.injEq, and_true]
      omega

/-! ### six bits a letter, as the program goes -/
/-- the letters' values that leave an accumulator, while it has six bits -/
def emit : Nat → Nat → Nat → List Nat
  | 0, _, _ => []
  | f + 1, acc, n => if 6 ≤ n then (acc / 2 ^ (n - 6) % 64) :: emit f acc (n - 6) else []
theorem emit_bits : ∀ (f acc n : Nat), n < 6 * f + 6 → allBits 6 (emit f acc n) ++ bitsOf (n % 6) acc = bitsOf n acc
  | 0, acc, n, h => by simp [emit, allBits, Nat.mod_eq_of_lt (show n < 6 by omega)]
  | f + 1, acc, n, h => by
    unfold emit
    split
    · rename_i h6
      have ih := emit_bits f acc (n - 6) (by omega)
      rw [allBits_cons, List.append_assoc, show n % 6 = (n - 6) % 6 by omega, ih]
      have : bitsOf 6 (acc / 2 ^ (n - 6) % 64) = bitsOf 6 (acc / 2 ^ (n - 6)) := bitsOf_mod 6 _ 6 (Nat.le_refl _)
      rw [this, ← bitsOf_add, Nat.add_comm, Nat.sub_add_cancel h6]
    · rename_i h6
      simp [allBits, Nat.mod_eq_of_lt (show n < 6 by omega)]
theorem emit_lt : ∀ (f acc n : Nat), ∀ x ∈ emit f acc n, x < 64
  | 0, _, _, x, hx => by simp [emit] at hx
  | f + 1, acc, n, x, hx => by
    unfold emit at hx
    split at hx
    · rcases List.mem_cons.1 hx with rfl | hx
      · omega
      · exact emit_lt f acc (n - 6) x hx
    · simp at hx
/-- one unit goes in: what has left, what is held, how many bits of it -/
def sixStep (st : List Nat × Nat × Nat) (u : Nat) : List Nat × Nat × Nat :=
  (st.1 ++ emit 3 (st.2.1 * 65536 + u) (st.2.2 + 16), (st.2.1 * 65536 + u) % 2 ^ ((st.2.2 + 16) % 6), (st.2.2 + 16) % 6)
def sixFold (us : List Nat) : List Nat × Nat × Nat := us.foldl sixStep ([], 0, 0)
theorem sixFold_inv (us : List Nat) : ∀ (st : List Nat × Nat × Nat) (B : List Bool), (∀ u ∈ us, u < 65536) → st.2.2 < 6 → st.2.1 < 2 ^ st.2.2 → (∀ x ∈ st.1, x < 64) → allBits 6 st.1 ++ bitsOf st.2.2 st.2.1 = B →
    (us.foldl sixStep st).2.2 < 6 ∧ (us.foldl sixStep st).2.1 < 2 ^ (us.foldl sixStep st).2.2 ∧ (∀ x ∈ (us.foldl sixStep st).1, x < 64) ∧ allBits 6 (us.foldl sixStep st).1 ++ bitsOf (us.foldl sixStep st).2.2 (us.foldl sixStep st).2.1 = B ++ allBits 16 us := by
  induction us with
  | nil => intro st B _ h1 h2 h3 h4; exact ⟨h1, h2, h3, by simpa [allBits] using h4⟩
  | cons u us ih =>
    intro st B hu h1 h2 h3 h4
    have hu0 := hu u (by simp)
    simp only [List.foldl_cons]
    obtain ⟨k1, k2, k3, k4⟩ := ih (sixStep st u) (B ++ bitsOf 16 u) (fun x hx => hu x (List.mem_cons_of_mem _ hx)) (by simp only [sixStep]; omega) (by simp only [sixStep]; exact Nat.mod_lt _ (Nat.two_pow_pos _))
      (by
        intro x hx
        simp only [sixStep, List.mem_append] at hx
        rcases hx with hx | hx
        · exact h3 x hx
        · exact emit_lt _ _ _ x hx)
      (by
        simp only [sixStep]
        rw [allBits_append, List.append_assoc, bitsOf_mod _ _ _ (Nat.le_refl _), emit_bits 3 _ _ (by omega), bitsOf_add, ← h4, List.append_assoc]
        congr 2
        · rw [show 2 ^ 16 = 65536 from rfl]; congr 1; omega
        · rw [← bitsOf_mod 16 (st.2.1 * 65536 + u) 16 (Nat.le_refl _), show 2 ^ 16 = 65536 from rfl]; congr 1; omega)
    exact ⟨k1, k2, k3, by rw [k4, List.append_assoc, allBits_cons]⟩
/-- the values of the letters in which units are written -/
def sixes (us : List Nat) : List Nat :=
  (sixFold us).1 ++ (if 0 < (sixFold us).2.2 then [(sixFold us).2.1 * 2 ^ (6 - (sixFold us).2.2) % 64] else [])
theorem sixes_lt (us : List Nat) (h : ∀ u ∈ us, u < 65536) : ∀ x ∈ sixes us, x < 64 := by
  obtain ⟨k1, k2, k3, k4⟩ := sixFold_inv us ([], 0, 0) [] h (by simp) (by simp) (by simp) (by simp [allBits, bitsOf])
  intro x hx
  unfold sixes sixFold at hx
  rcases List.mem_append.1 hx with hx | hx
  · exact k3 x hx
  · split at hx
    · simp at hx; omega
    · simp at hx
theorem sixes_bits (us : List Nat) (h : ∀ u ∈ us, u < 65536) : ∃ z, z < 6 ∧ allBits 6 (sixes us) = allBits 16 us ++ List.replicate z false := by
  obtain ⟨k1, k2, k3, k4⟩ := sixFold_inv us ([], 0, 0) [] h (by simp) (by simp) (by simp) (by simp [allBits, bitsOf])
  rw [show us.foldl sixStep ([], 0, 0) = sixFold us from rfl] at *
  rw [List.nil_append] at k4
  unfold sixes
  generalize (sixFold us).2.2 = n at *
  generalize (sixFold us).2.1 = acc at *
  by_cases h0 : 0 < n
  · refine ⟨6 - n, by omega, ?_⟩
    rw [if_pos h0, allBits_append, ← k4, List.append_assoc]
    congr 1
    rw [show allBits 6 [acc * 2 ^ (6 - n) % 64] = bitsOf 6 (acc * 2 ^ (6 - n) % 2 ^ 6) by simp [allBits], bitsOf_mod 6 _ 6 (Nat.le_refl _)]
    have e6 : (6 : Nat) = n + (6 - n) := by omega
    rw [show bitsOf 6 (acc * 2 ^ (6 - n)) = bitsOf (n + (6 - n)) (acc * 2 ^ (6 - n)) by rw [← e6], bitsOf_add, Nat.mul_div_cancel _ (Nat.two_pow_pos _)]
    congr 1
    have : ∀ k j a, k ≤ j → bitsOf k (a * 2 ^ j) = List.replicate k false := by
      intro k
      induction k with
      | zero => intros; rfl
      | succ k ih =>
        intro j a hj
        simp only [bitsOf, List.replicate_succ]
        rw [ih j a (by omega)]
        congr 1
        have : a * 2 ^ j / 2 ^ k % 2 = 0 := by
          rw [show 2 ^ j = 2 ^ k * (2 * 2 ^ (j - k - 1)) by rw [← Nat.pow_succ', ← Nat.pow_add]; congr 1; omega, ← Nat.mul_assoc, Nat.mul_comm a, Nat.mul_assoc, Nat.mul_div_cancel_left _ (Nat.two_pow_pos _), Nat.mul_left_comm]
          exact Nat.mul_mod_right 2 _
        rw [this]; rfl
    exact this _ _ _ (Nat.le_refl _)
  · refine ⟨0, by omega, ?_⟩
    rw [if_neg h0, List.append_nil]
    have : n = 0 := by omega
    subst this
    simpa [bitsOf] using k4

/-! ### units out of sixes, as the program goes -/
def unStep (st : List Nat × Nat × Nat) (k : Nat) : List Nat × Nat × Nat :=
  if 16 ≤ st.2.2 + 6 then (st.1 ++ [(st.2.1 * 64 + k) / 2 ^ (st.2.2 + 6 - 16) % 65536], (st.2.1 * 64 + k) % 2 ^ (st.2.2 + 6 - 16), st.2.2 + 6 - 16)
  else (st.1, st.2.1 * 64 + k, st.2.2 + 6)
def unFold (ks : List Nat) : List Nat × Nat × Nat := ks.foldl unStep ([], 0, 0)
theorem unFold_inv (ks : List Nat) : ∀ (st : List Nat × Nat × Nat) (B : List Bool), (∀ k ∈ ks, k < 64) → st.2.2 < 16 → st.2.1 < 2 ^ st.2.2 → (∀ x ∈ st.1, x < 65536) → allBits 16 st.1 ++ bitsOf st.2.2 st.2.1 = B →
    (ks.foldl unStep st).2.2 < 16 ∧ (ks.foldl unStep st).2.1 < 2 ^ (ks.foldl unStep st).2.2 ∧ (∀ x ∈ (ks.foldl unStep st).1, x < 65536) ∧ allBits 16 (ks.foldl unStep st).1 ++ bitsOf (ks.foldl unStep st).2.2 (ks.foldl unStep st).2.1 = B ++ allBits 6 ks := by
  induction ks with
  | nil => intro st B _ h1 h2 h3 h4; exact ⟨h1, h2, h3, by simpa [allBits] using h4⟩
  | cons k ks ih =>
    intro st B hk h1 h2 h3 h4
    have hk0 := hk k (by simp)
    simp only [List.foldl_cons]
    have hbits : bitsOf (st.2.2 + 6) (st.2.1 * 64 + k) = bitsOf st.2.2 st.2.1 ++ bitsOf 6 k := by
      rw [bitsOf_add]
      congr 1
      · rw [show 2 ^ 6 = 64 from rfl]; congr 1; omega
      · rw [← bitsOf_mod 6 (st.2.1 * 64 + k) 6 (Nat.le_refl _), show 2 ^ 6 = 64 from rfl]; congr 1; omega
    have hacc : st.2.1 * 64 + k < 2 ^ (st.2.2 + 6) := by
      rw [Nat.pow_add, show 2 ^ 6 = 64 from rfl]
      have : (st.2.1 + 1) * 64 ≤ 2 ^ st.2.2 * 64 := Nat.mul_le_mul_right _ h2
      omega
    obtain ⟨k1, k2, k3, k4⟩ := ih (unStep st k) (B ++ bitsOf 6 k) (fun x hx => hk x (List.mem_cons_of_mem _ hx))
      (by unfold unStep; split <;> dsimp only <;> omega)
      (by
        unfold unStep; split <;> dsimp only
        · exact Nat.mod_lt _ (Nat.two_pow_pos _)
        · exact hacc)
      (by
        intro x hx
        unfold unStep at hx
        split at hx
        · dsimp only at hx
          rcases List.mem_append.1 hx with hx | hx
          · exact h3 x hx
          · simp at hx; omega
        · exact h3 x hx)
      (by
        unfold unStep; split <;> dsimp only
        · rename_i h16
          rw [allBits_append, List.append_assoc, ← h4, List.append_assoc, ← hbits, bitsOf_mod _ _ _ (Nat.le_refl _)]
          congr 1
          rw [show allBits 16 [(st.2.1 * 64 + k) / 2 ^ (st.2.2 + 6 - 16) % 65536] = bitsOf 16 ((st.2.1 * 64 + k) / 2 ^ (st.2.2 + 6 - 16) % 2 ^ 16) by simp [allBits], bitsOf_mod 16 _ 16 (Nat.le_refl _), ← bitsOf_add]
          congr 1; omega
        · rw [← h4, hbits, List.append_assoc])
    exact ⟨k1, k2, k3, by rw [k4, List.append_assoc, allBits_cons]⟩
theorem unFold_spec (ks : List Nat) (h : ∀ k ∈ ks, k < 64) : (∀ x ∈ (unFold ks).1, x < 65536) ∧ ∃ r : List Bool, r.length < 16 ∧ allBits 16 (unFold ks).1 ++ r = allBits 6 ks := by
  obtain ⟨k1, k2, k3, k4⟩ := unFold_inv ks ([], 0, 0) [] h (by simp) (by simp) (by simp) (by simp [allBits, bitsOf])
  exact ⟨k3, _, by rw [bitsOf_length]; exact k1, k4⟩
/-- what units are written as, read, are the units -/
theorem unFold_sixes (us : List Nat) (h : ∀ u ∈ us, u < 65536) : (unFold (sixes us)).1 = us := by
  obtain ⟨h1, r, h2, h3⟩ := unFold_spec (sixes us) (sixes_lt us h)
  obtain ⟨z, h4, h5⟩ := sixes_bits us h
  exact (allBits_inj 16 _ _ r (List.replicate z false) h1 h h2 (by simp; omega) (by rw [h3, h5])).1

/-! ### what is written -/
def LET : List UInt8 := [65, 66, 67, 68, 69, 70, 71, 72, 73, 74, 75, 76, 77, 78, 79, 80, 81, 82, 83, 84, 85, 86, 87, 88, 89, 90, 97, 98, 99, 100, 101, 102, 103, 104, 105, 106, 107, 108, 109, 110, 111, 112, 113, 114, 115, 116, 117, 118, 119, 120, 121, 122, 48, 49, 50, 51, 52, 53, 54, 55, 56, 57, 43, 44]
def lett (k : Nat) : UInt8 := LET.getD k 0
def flushL (out : List UInt8) (wait : List Nat) : List UInt8 :=
  if wait = [] then out else out ++ ([38] ++ (sixes (wait.flatMap unitsOf)).map lett ++ [45])
def encF : List Nat → List UInt8 → List Nat → List UInt8
  | [], out, wait => flushL out wait
  | r :: rs, out, wait =>
    if 32 ≤ r ∧ r ≤ 126 ∧ r ≠ 38 then encF rs (flushL out wait ++ [UInt8.ofNat r]) []
    else if r = 38 then encF rs (flushL out wait ++ [38, 45]) []
    else encF rs out (wait ++ [r])
def encL (l : List UInt8) : List UInt8 := encF (runesL l) [] []
theorem units_len : ∀ rs : List Nat, (rs.flatMap unitsOf).length ≤ 2 * rs.length
  | [] => by simp
  | r :: rs => by
    have := units_len rs
    rw [List.flatMap_cons, List.length_append, List.length_cons]
    have : (unitsOf r).length ≤ 2 := by unfold unitsOf; split <;> simp
    omega
theorem units_all_lt (rs : List Nat) (h : ∀ r ∈ rs, r ≤ 1114111) : ∀ u ∈ rs.flatMap unitsOf, u < 65536 := by
  intro u hu
  obtain ⟨r, hr, hu⟩ := List.mem_flatMap.1 hu
  exact unitsOf_lt r (h r hr) u hu
theorem flushL_len (out : List UInt8) (wait : List Nat) (h : ∀ r ∈ wait, r ≤ 1114111) : (flushL out wait).length ≤ out.length + 9 * wait.length := by
  unfold flushL
  split
  · omega
  · rename_i hne
    have h0 : 0 < wait.length := List.length_pos_iff.2 hne
    obtain ⟨z, hz, e⟩ := sixes_bits _ (units_all_lt wait h)
    have := congrArg List.length e
    simp only [allBits_length, List.length_append, List.length_replicate] at this
    have := units_len wait
    simp only [List.length_append, List.length_map, List.length_cons, List.length_nil]
    omega
end Go.Proofs.YtdlfbhbgemoelaaGreatDoor
