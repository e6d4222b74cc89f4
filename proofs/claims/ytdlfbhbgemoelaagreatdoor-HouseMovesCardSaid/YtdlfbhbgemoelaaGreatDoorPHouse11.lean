/- All that a house has, as one text (the statements' all), and how long it may be. No program in sight. -/
import Derived.Test.YtdlfbhbgemoelaaGreatDoorPHouse10
import Derived.Test.YtdlfbhbgemoelaaGreatDoorFlagE
import Derived.Lib.ItoaNum
namespace Go.Proofs.YtdlfbhbgemoelaaGreatDoor

def letT (x : Let) : Bs := [32] ++ Lib.itoa x.uid ++ printFl x.flags ++ Lib.itoa x.day ++ [58] ++ Lib.itoa (x.text.length : Int) ++ x.text
def headT (n : Bs) (b : BoxP) : Bs := [124] ++ n ++ [32] ++ Lib.itoa b.valid ++ [32] ++ Lib.itoa b.next
def boxT (n : Bs) (b : BoxP) : Bs := headT n b ++ b.ls.flatMap letT
def outT (p : HouP) (i : Nat) : Bs := Lib.itoa p.next ++ Lib.join p.W [44] ++ (p.L.take i).flatMap fun x => boxT x (p.c x)
/-- all that a house has, as one text -/
def allT (p : HouP) : Bs := outT p p.L.length
theorem out_zero (p : HouP) : outT p 0 = Lib.itoa p.next ++ Lib.join p.W [44] := by unfold outT; simp
theorem out_step {p : HouP} {i : Nat} {x : Bs} (h : p.L[i]? = some x) : outT p (i + 1) = outT p i ++ boxT x (p.c x) := by
  unfold outT
  rw [List.take_add_one, h]
  simp
theorem lets_step {l : List Let} {k : Nat} {x : Let} (h : l[k]? = some x) : (l.take (k + 1)).flatMap letT = (l.take k).flatMap letT ++ letT x := by
  rw [List.take_add_one, h]
  simp
theorem dec_len (n : Nat) : (Lib.decDigits n).length ≤ n + 1 := by
  induction n using Nat.strongRecOn with
  | _ n ih =>
    by_cases h1 : n < 10
    · rw [Lib.decDigits_one h1]; simp
    · rw [Lib.decDigits, dif_neg h1, List.length_append]
      have := ih (n / 10) (by omega)
      simp only [List.length_cons, List.length_nil]
      omega
theorem itoa_le {v : Int} (h0 : 0 ≤ v) (h1 : v ≤ 2147483647) : (Lib.itoa v).length ≤ 2147483648 := by
  unfold Lib.itoa
  rw [if_neg (by omega)]
  have := dec_len v.toNat
  omega
theorem flat_le {α : Type} (f : α → Bs) (C : Nat) : ∀ (l : List α), (∀ y ∈ l, (f y).length ≤ C) → (l.flatMap f).length ≤ l.length * C
  | [], _ => by simp
  | y :: l, h => by
    have h1 := h y (List.mem_cons_self ..)
    have h2 := flat_le f C l (fun z hz => h z (List.mem_cons_of_mem _ hz))
    rw [List.flatMap_cons, List.length_append, List.length_cons, Nat.succ_mul]
    omega
theorem joinC_le (c : UInt8) : ∀ (l : List Bs), (∀ t ∈ l, t.length ≤ 100000) → (Lib.join l [c]).length ≤ l.length * 100001
  | [], _ => by simp [Lib.join]
  | [x], h => by
    have := h x (by simp)
    rw [Lib.join_one]
    simp only [List.length_cons, List.length_nil]; omega
  | x :: y :: r, h => by
    have h1 := h x (by simp)
    have ih := joinC_le c (y :: r) (fun t ht => h t (List.mem_cons_of_mem _ ht))
    have e : Lib.join (x :: y :: r) [c] = x ++ [c] ++ Lib.join (y :: r) [c] := by simp [Lib.join, List.intercalate]
    rw [e, List.length_append, List.length_append]
    simp only [List.length_cons, List.length_nil] at ih ⊢
    omega
theorem printFl_le {f : List (List UInt8)} (h : setF f = .inr f) : (printFl f).length ≤ 1300000 := by
  have h1 := (set_ok h).2.2
  have h2 := set_short h
  have h3 := join_le f (fun t ht => by have := h2 t ht; omega)
  have h4 : f.length * 100001 ≤ 12 * 100001 := Nat.mul_le_mul_right _ h1
  unfold printFl
  rw [List.length_append, List.length_append]
  simp only [List.length_cons, List.length_nil]
  omega
theorem let_at {next : Int} : ∀ {l : List Let} {last : Int}, 0 ≤ last → boxRL next last l = true → ∀ x ∈ l, setF x.flags = .inr x.flags ∧ 0 ≤ x.uid ∧ x.uid < next ∧ 0 ≤ x.day ∧ x.day ≤ 2147483647 ∧ x.text.length ≤ 2000
  | [], _, _, _, x, hx => by cases hx
  | y :: l, last, h0, h, x, hx => by
    unfold boxRL at h
    rw [Bool.and_eq_true] at h
    obtain ⟨h1, h2⟩ := h
    obtain ⟨e1, e2, e3, e4, e5, e6⟩ := letOk_iff.1 h1
    unfold maxN at e5
    rcases List.mem_cons.1 hx with rfl | hx
    · exact ⟨e1, by omega, e3, e4, e5, e6⟩
    · exact let_at (by omega) h2 x hx
theorem let_of {b : BoxP} (h : rightB b = true) {x : Let} (hx : x ∈ b.ls) : setF x.flags = .inr x.flags ∧ (0 ≤ x.uid ∧ x.uid ≤ 2147483647) ∧ (0 ≤ x.day ∧ x.day ≤ 2147483647) ∧ x.text.length ≤ 2000 := by
  obtain ⟨h1, _, h3, _⟩ := right_parts h
  obtain ⟨e1, e2, e3, e4, e5, e6⟩ := let_at (Int.le_refl _) h1 x hx
  unfold maxN at h3
  exact ⟨e1, ⟨e2, by omega⟩, ⟨e4, e5⟩, e6⟩
theorem letT_le {b : BoxP} (h : rightB b = true) {x : Let} (hx : x ∈ b.ls) : (letT x).length ≤ 7000000000 := by
  obtain ⟨e1, e2, e3, e4⟩ := let_of h hx
  have h1 := itoa_le e2.1 e2.2
  have h2 := itoa_le e3.1 e3.2
  have h3 := itoa_le (v := (x.text.length : Int)) (by omega) (by omega)
  have h4 := printFl_le e1
  unfold letT
  simp only [List.length_append, List.length_cons, List.length_nil]
  omega
theorem lets_le {b : BoxP} (h : rightB b = true) (k : Nat) : ((b.ls.take k).flatMap letT).length ≤ 420000000000 := by
  have h1 := flat_le letT 7000000000 (b.ls.take k) (fun y hy => letT_le h (List.mem_of_mem_take hy))
  have h2 := (right_parts h).2.2.2
  have h3 : (b.ls.take k).length ≤ 60 := Nat.le_trans (by rw [List.length_take]; omega) h2
  have h4 : (b.ls.take k).length * 7000000000 ≤ 60 * 7000000000 := Nat.mul_le_mul_right _ h3
  omega
theorem headT_le {n : Bs} {b : BoxP} (hn : n.length ≤ 60) (h : rightB b = true) : (headT n b).length ≤ 4300000000 := by
  obtain ⟨_, h2, h3, _⟩ := right_parts h
  unfold maxN at h2 h3
  have e1 := itoa_le (v := b.valid) (by omega) h2.2
  have e2 := itoa_le (v := b.next) (by omega) h3.2
  unfold headT
  simp only [List.length_append, List.length_cons, List.length_nil]
  omega
theorem out_le {p : HouP} {B : Int} (h : Full p B) (hB : B ≤ 2147483647) (i : Nat) : (outT p i).length ≤ 14000000000000 := by
  have hx : ∀ x ∈ p.L.take i, (boxT x (p.c x)).length ≤ 430000000000 := fun x hx => by
    have hxL := List.mem_of_mem_take hx
    have h1 := lets_le (h.good.right x hxL) (p.c x).ls.length
    rw [List.take_length] at h1
    have h2 := headT_le (hnameF_len (h.named.name x hxL)).1 (h.good.right x hxL)
    unfold boxT
    rw [List.length_append]
    omega
  have h1 := flat_le _ _ _ hx
  have h2 : (p.L.take i).length ≤ 30 := Nat.le_trans (by rw [List.length_take]; omega) h.inb.many
  have h3 : (p.L.take i).length * 430000000000 ≤ 30 * 430000000000 := Nat.mul_le_mul_right _ h2
  have h4 := joinC_le 44 p.W (fun t ht => by have := (hnameF_len (h.named.want t ht)).1; omega)
  have h5 : p.W.length * 100001 ≤ 60 * 100001 := Nat.mul_le_mul_right _ h.inb.wants
  have h6 := itoa_le h.inb.lo (Int.le_trans h.inb.hi hB)
  unfold outT
  rw [List.length_append, List.length_append]
  omega
end Go.Proofs.YtdlfbhbgemoelaaGreatDoor
