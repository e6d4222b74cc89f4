/- Plain facts on how the reference writes names: sixes cut out of bits. No program in sight; no condition beyond those each lemma names. -/
import Derived.Test.YtkaagodacjgoaaaDoorPUtf3
import Derived.Laws.RangeString
namespace Go.Proofs.YtkaagodacjgoaaaDoor
open Go.Lib

/-- bits as the letters 0 and 1 -/
def bstr (l : List Bool) : List UInt8 := l.map fun b => if b then 49 else 48
theorem bstr_len (l : List Bool) : (bstr l).length = l.length := by simp [bstr]
theorem bstr_app (a b : List Bool) : bstr (a ++ b) = bstr a ++ bstr b := by simp [bstr]
theorem bstr_cat (x : UInt8) (l : List UInt8) : (⟨#[x]⟩ : ByteArray) ++ ⟨l.toArray⟩ = ⟨(x :: l).toArray⟩ := by
  apply ByteArray.ext; simp
theorem text_cat (a b : List UInt8) : (⟨a.toArray⟩ : ByteArray) ++ ⟨b.toArray⟩ = ⟨(a ++ b).toArray⟩ := by
  apply ByteArray.ext; simp
theorem text_cat1 (a : List UInt8) (x : UInt8) : (⟨a.toArray⟩ : ByteArray) ++ ⟨#[x]⟩ = ⟨(a ++ [x]).toArray⟩ := by
  apply ByteArray.ext; simp
theorem text_cat2 (a : List UInt8) (x y : UInt8) : (⟨a.toArray⟩ : ByteArray) ++ ⟨#[x, y]⟩ = ⟨(a ++ [x, y]).toArray⟩ := by
  apply ByteArray.ext; simp
theorem text_size (a : List UInt8) : (⟨a.toArray⟩ : ByteArray).size = a.length := by rw [size_eq]
theorem text_part (a : List UInt8) (i j : Nat) : (⟨a.toArray⟩ : ByteArray).extract i j = ⟨((a.drop i).take (j - i)).toArray⟩ := by
  rw [extract_eq]
theorem valOf_snoc : ∀ (l : List Bool) (b : Bool), valOf (l ++ [b]) = 2 * valOf l + b.toNat
  | [], b => by simp [valOf]
  | c :: l, b => by
    simp only [List.cons_append, valOf, valOf_snoc l b, List.length_append, List.length_singleton, Nat.pow_succ]
    rw [Nat.mul_add, ← Nat.mul_assoc, ← Nat.mul_assoc, Nat.mul_right_comm, Nat.mul_comm 2 c.toNat, Nat.mul_right_comm]
    omega
/-- bits cut into sixes -/
def sixVals : Nat → List Bool → List Nat
  | 0, _ => []
  | n + 1, l => valOf (l.take 6) :: sixVals n (l.drop 6)
theorem sixVals_len : ∀ n l, (sixVals n l).length = n
  | 0, _ => rfl
  | n + 1, l => by simp [sixVals, sixVals_len n]
theorem sixVals_bits : ∀ (n : Nat) (l : List Bool), l.length = 6 * n → allBits 6 (sixVals n l) = l
  | 0, l, h => by
    have : l = [] := List.eq_nil_of_length_eq_zero (by omega)
    subst this; rfl
  | n + 1, l, h => by
    have h6 : (l.take 6).length = 6 := by rw [List.length_take]; omega
    have hb := bitsOf_val (l.take 6)
    rw [h6] at hb
    rw [show sixVals (n + 1) l = valOf (l.take 6) :: sixVals n (l.drop 6) from rfl, allBits_cons, hb, sixVals_bits n (l.drop 6) (by rw [List.length_drop]; omega), List.take_append_drop]
theorem sixVals_lt : ∀ (n : Nat) (l : List Bool), ∀ x ∈ sixVals n l, x < 64
  | 0, _, x, hx => by simp [sixVals] at hx
  | n + 1, l, x, hx => by
    rcases List.mem_cons.1 hx with rfl | hx
    · have := valOf_lt (l.take 6)
      have h6 : (l.take 6).length ≤ 6 := by rw [List.length_take]; omega
      have : 2 ^ (l.take 6).length ≤ 2 ^ 6 := Nat.pow_le_pow_right (by decide) h6
      omega
    · exact sixVals_lt n _ x hx
theorem sixVals_get : ∀ (n : Nat) (l : List Bool) (k : Nat), k < n → (sixVals n l)[k]? = some (valOf ((l.drop (6 * k)).take 6))
  | 0, _, _, h => by omega
  | n + 1, l, 0, _ => by simp [sixVals]
  | n + 1, l, k + 1, h => by
    rw [show sixVals (n + 1) l = valOf (l.take 6) :: sixVals n (l.drop 6) from rfl, List.getElem?_cons_succ, sixVals_get n _ k (by omega), List.drop_drop]
    rw [show 6 + 6 * k = 6 * (k + 1) by omega]
theorem sixVals_sixes (us : List Nat) (h : ∀ u ∈ us, u < 65536) (z n : Nat) (hz : z < 6) (hn : 16 * us.length + z = 6 * n) : sixVals n (allBits 16 us ++ List.replicate z false) = sixes us := by
  obtain ⟨z', h1, h2⟩ := sixes_bits us h
  have e1 := congrArg List.length h2
  simp only [allBits_length, List.length_append, List.length_replicate] at e1
  have hzz : z' = z := by omega
  subst hzz
  have e2 := sixVals_bits n (allBits 16 us ++ List.replicate z' false) (by simp only [allBits_length, List.length_append, List.length_replicate]; omega)
  rw [← h2] at e2
  have := allBits_inj 6 _ _ [] [] (sixVals_lt n (allBits 6 (sixes us))) (sixes_lt us h) (by decide) (by decide) (by rw [List.append_nil, List.append_nil]; exact e2)
  rw [← h2]
  exact this.1
/-- a letter below 128 is a rune -/
theorem decode_letter (l : List UInt8) (j : Nat) (c : UInt8) (hj : l[j]? = some c) (hc : c.toNat < 128) : Utf8.decode ⟨l.toArray⟩ j = (c.toNat, 1) := by
  have hlt : j < l.length := (List.getElem?_eq_some_iff.1 hj).1
  have he : l[j] = c := (List.getElem?_eq_some_iff.1 hj).2
  have := decode_ascii ⟨l.toArray⟩ j (by rw [text_size]; exact hlt) (by show (l[j]).toNat < 128; rw [he]; exact hc)
  rw [this]
  show ((l[j]).toNat, 1) = _
  rw [he]
end Go.Proofs.YtkaagodacjgoaaaDoor
