/- The plain reading of a command: words, texts in quotes, bytes behind their number, parts in brackets. No program in sight; no condition. -/
import Derived.Test.YtbfndlmihijcgaaGreatDoorPWire
import Derived.KernelRfl
namespace Go.Proofs.YtbfndlmihijcgaaGreatDoor

/-- a command's part: its kind (1 a word, 2 a text, 3 a list), its text, its parts -/
inductive ArgP where
  | mk (kind : Nat) (text : List UInt8) (list : List ArgP)
def ArgP.kind : ArgP → Nat | .mk k _ _ => k
def ArgP.text : ArgP → List UInt8 | .mk _ t _ => t
def ArgP.list : ArgP → List ArgP | .mk _ _ l => l
/-- letters that may stand in a word -/
def atomB (c : UInt8) : Bool := decide (32 < c.toNat) && (decide (c.toNat < 127) && !([40, 41, 123, 34] : List UInt8).contains c)
/-- all but the last two bytes -/
def bodyL (S : List UInt8) : List UInt8 := S.take (S.length - 2)
theorem bodyL_len (S : List UInt8) : (bodyL S).length = S.length - 2 := by rw [bodyL, List.length_take]; omega
theorem bodyL_get {S : List UInt8} {a : Nat} {c : UInt8} (h : (bodyL S)[a]? = some c) : a + 2 < S.length ∧ S[a]? = some c := by
  have ha : a < (bodyL S).length := (List.getElem?_eq_some_iff.1 h).1
  rw [bodyL_len] at ha
  refine ⟨by omega, ?_⟩
  rw [bodyL, List.getElem?_take_of_lt (by omega)] at h
  exact h
theorem bodyL_at {S : List UInt8} {a : Nat} (h : a + 2 < S.length) : (bodyL S)[a]? = S[a]? := by rw [bodyL, List.getElem?_take_of_lt (by omega)]
theorem bodyL_none {S : List UInt8} {a : Nat} (h : S.length ≤ a + 2) : (bodyL S)[a]? = none := List.getElem?_eq_none (by rw [bodyL_len]; omega)
/-- the word at a place -/
def wordL (S : List UInt8) (a : Nat) : List UInt8 := ((bodyL S).drop a).takeWhile atomB
theorem wordL_end {S : List UInt8} {a : Nat} (h : (bodyL S)[a]? = none) : wordL S a = [] := by
  rw [wordL, List.drop_eq_nil_of_le (List.getElem?_eq_none_iff.1 h)]; rfl
theorem wordL_yes {S : List UInt8} {a : Nat} {c : UInt8} (h : (bodyL S)[a]? = some c) (hc : atomB c = true) : wordL S a = c :: wordL S (a + 1) := by
  obtain ⟨ha, rfl⟩ := List.getElem?_eq_some_iff.1 h
  rw [wordL, wordL, List.drop_eq_getElem_cons ha, List.takeWhile_cons_of_pos hc]
theorem wordL_no {S : List UInt8} {a : Nat} {c : UInt8} (h : (bodyL S)[a]? = some c) (hc : atomB c = false) : wordL S a = [] := by
  obtain ⟨ha, rfl⟩ := List.getElem?_eq_some_iff.1 h
  rw [wordL, List.drop_eq_getElem_cons ha, List.takeWhile_cons_of_neg (by simp [hc])]
theorem wordL_le (S : List UInt8) (a : Nat) : wordL S a = [] ∨ a + (wordL S a).length + 2 ≤ S.length := by
  rcases Nat.lt_or_ge a (bodyL S).length with h | h
  · right
    have h1 : (wordL S a).length ≤ ((bodyL S).drop a).length := (List.takeWhile_prefix atomB).length_le
    rw [List.length_drop, bodyL_len] at h1
    rw [bodyL_len] at h
    omega
  · left; exact wordL_end (List.getElem?_eq_none h)
/-- the word as it stands among the bytes -/
theorem wordL_take (S : List UInt8) (a : Nat) : (S.drop a).take (wordL S a).length = wordL S a := by
  have hp : wordL S a <+: S.drop a := by
    refine (List.takeWhile_prefix atomB).trans ?_
    rw [bodyL, List.drop_take]
    exact List.take_prefix _ _
  exact (List.prefix_iff_eq_take.1 hp).symm
/-- what stands between two quotes, read on from a place; where it is wrong -/
def quoL : List UInt8 → Nat → Except Nat (List UInt8 × Nat)
  | [], i => .error i
  | 34 :: _, i => .ok ([], i + 1)
  | [92], i => .error (i + 1)
  | 92 :: d :: r, i => if d = 34 ∨ d = 92 then (match quoL r (i + 2) with | .ok (t, j) => .ok (d :: t, j) | .error e => .error e) else .error (i + 1)
  | c :: r, i => if c = 13 ∨ c = 10 ∨ c = 0 then .error i else (match quoL r (i + 1) with | .ok (t, j) => .ok (c :: t, j) | .error e => .error e)
/-- bytes behind their number -/
def bytF (S : List UInt8) (a : Nat) : Option (List UInt8 × Nat) :=
  if Lib.index (S.drop a) [13, 10] < 0 then none
  else if Lib.indexByte ((S.drop a).take (Lib.index (S.drop a) [13, 10]).toNat) 125 ≠ Lib.index (S.drop a) [13, 10] - 1 then none
  else match litF ((S.drop a).take (Lib.index (S.drop a) [13, 10]).toNat) with
    | none => none
    | some n => if S.length < a + (Lib.index (S.drop a) [13, 10]).toNat + 2 + n.toNat then none
      else some ((S.drop (a + (Lib.index (S.drop a) [13, 10]).toNat + 2)).take n.toNat, a + (Lib.index (S.drop a) [13, 10]).toNat + 2 + n.toNat)
def blankF (S : List UInt8) (a : Nat) : Bool := decide ((bodyL S)[a]? = some 32)
mutual
/-- a part: it, where it ends, how many parts there were -/
def argF (S : List UInt8) : Nat → Nat → Nat → Nat → Except (Nat × Nat) (ArgP × Nat × Nat)
  | 0, _, _, _ => .error (0, 0)
  | f + 1, d, a, n =>
    if 60 < n + 1 ∨ 6 < d then .error (4, a)
    else match (bodyL S)[a]? with
      | none => .error (3, a)
      | some c =>
        if c = 34 then (match quoL ((bodyL S).drop (a + 1)) (a + 1) with
          | .error p => .error (3, p)
          | .ok (t, b) => .ok (.mk 2 t [], b, n + 1))
        else if c = 123 then (match bytF S a with
          | none => .error (3, a)
          | some (t, b) => .ok (.mk 2 t [], b, n + 1))
        else if c = 40 then listF S f d (a + 1) (n + 1) []
        else if wordL S a = [] then .error (3, a) else .ok (.mk 1 (wordL S a) [], a + (wordL S a).length, n + 1)
/-- parts in brackets, behind those that were read -/
def listF (S : List UInt8) : Nat → Nat → Nat → Nat → List ArgP → Except (Nat × Nat) (ArgP × Nat × Nat)
  | 0, _, _, _, _ => .error (0, 0)
  | f + 1, d, a, n, acc =>
    if (bodyL S)[a]? = some 41 then .ok (.mk 3 [] acc, a + 1, n)
    else if acc ≠ [] ∧ blankF S a = false then .error (3, a)
    else match argF S f (d + 1) (if acc = [] then a else a + 1) n with
      | .error e => .error e
      | .ok (x, b, m) => listF S f d b m (acc ++ [x])
end
/-- all parts of a command -/
def argsF (S : List UInt8) : Nat → Nat → Nat → List ArgP → Except (Nat × Nat) (List ArgP × Nat)
  | 0, _, _, _ => .error (0, 0)
  | f + 1, a, n, acc =>
    if S.length ≤ a + 2 then .ok (acc, a)
    else if blankF S a = false then .error (3, a)
    else match argF S 200 0 (a + 1) n with
      | .error e => .error e
      | .ok (x, b, m) => argsF S f b m (acc ++ [x])
/-- great letters -/
def upL (l : List UInt8) : List UInt8 := l.map fun c => if 97 ≤ c.toNat ∧ c.toNat ≤ 122 then c - 32 else c
/-- a command: what it is called by, its name, its parts -/
def parseF (S : List UInt8) : Except (Nat × Nat) (List UInt8 × List UInt8 × List ArgP) :=
  if Lib.hasSuffix S [13, 10] = false then .error (3, 0)
  else if wordL S 0 = [] then .error (3, 0)
  else if blankF S (wordL S 0).length = false then .error (3, (wordL S 0).length)
  else if wordL S ((wordL S 0).length + 1) = [] then .error (3, (wordL S 0).length + 1)
  else match argsF S 100 ((wordL S 0).length + 1 + (wordL S ((wordL S 0).length + 1)).length) 0 [] with
    | .error e => .error e
    | .ok (l, a) => if a + 2 = S.length then .ok (wordL S 0, upL (wordL S ((wordL S 0).length + 1)), l) else .error (3, a)

/-- what a wanted ending hangs on: 'a1 login {3}CRLF a"b (x "y z")CRLF' -/
def wiredL : List UInt8 := [97, 49, 32, 108, 111, 103, 105, 110, 32, 123, 51, 125, 13, 10, 97, 34, 98, 32, 40, 120, 32, 34, 121, 32, 122, 34, 41, 13, 10]
theorem num_three : numF [51] = some 3 := by decide +kernel
theorem wired_parse : parseF wiredL = .ok ([97, 49], [76, 79, 71, 73, 78], [.mk 2 [97, 34, 98] [], .mk 3 [] [.mk 1 [120] [], .mk 2 [121, 32, 122] []]]) := by
  kernel_rfl
end Go.Proofs.YtbfndlmihijcgaaGreatDoor
