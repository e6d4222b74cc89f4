/- Plain laws for heads: letters great and small, names, what a head's lines say. No program in sight; no condition beyond those each names. Plain laws of flags: their order, the one list of some of them in order; what a sort and a compaction leave is that list. No program in sight. Plain laws of sets of numbers: read, written, what is one of them, the least set of some numbers. No program in sight; no condition beyond those each names. Plain laws of what is looked for: words, keys, what a reading of words gives, whether a letter is what a key asks. No program in sight; no condition beyond those each names. Plain laws for heads, second part: where texts are split and cut, and what a parameter says. No program in sight; no condition beyond those each names. Plain laws of what is looked for, third part: a key takes words, and counts. No program in sight; no condition beyond those each names. Plain laws of what is looked for, second part: what two readings of the same words agree in; the words that tell a set or a number. No program in sight; no condition beyond those each names. Plain laws for heads, fourth part: the document's ways to split a text and to read its lines are the program's. No program in sight; no condition beyond those each names. Plain laws of what is looked for: the keys that words bring have one of the fifteen codes; or and and by counting. No program in sight; no condition beyond those each names. -/
import Derived.Lib.SlTrimSet
import Derived.Lib.Split
import Derived.Lib.IndexAny
import Derived.Lib.IndexMore
import Derived.Lib.Hide
import Derived.Lib.Bytealg
import Derived.Lib.SlicesCompact
import Derived.Sort.Statements
import Derived.Shelf.SlSortCmp.Insertion
import Derived.Lib.AtoiAll
import Derived.Lib.ItoaNum
import Derived.Lib.LastIndexByte
import Derived.Lib.Join
import Derived.Lib.SplitLaws
namespace Go.Proofs.YtcahhnjponeeeaaGreatDoor
def smallC (c : UInt8) : UInt8 := if 65 ≤ c.toNat ∧ c.toNat ≤ 90 then c + 32 else c
def greatC (c : UInt8) : UInt8 := if 97 ≤ c.toNat ∧ c.toNat ≤ 122 then c - 32 else c
def smallL (l : List UInt8) : List UInt8 := l.map smallC
def greatL (l : List UInt8) : List UInt8 := l.map greatC
theorem u8_all {p : UInt8 → Prop} (h : ∀ n : Fin 256, p (UInt8.ofNat n.val)) (c : UInt8) : p c := by
  have := h ⟨c.toNat, c.toNat_lt⟩
  simpa using this
abbrev Fld := List UInt8 × List UInt8
def nameC (c : UInt8) : Bool := decide (33 ≤ c.toNat) && decide (c.toNat ≤ 126) && c != 58
def nameL (l : List UInt8) : Bool := l.all nameC && (!l.isEmpty && decide (l.length ≤ 60))
def badL (l : List UInt8) : Bool := Lib.containsAny l [13, 10, 0]
def blankC (c : UInt8) : Bool := c == 32 || c == 9
def trimB (l : List UInt8) : List UInt8 := Lib.trimS l [32, 9]
def trimW (l : List UInt8) : List UInt8 := Lib.trimS l [32]
/-- a text's head and its body -/
def splitHd (s : List UInt8) : List UInt8 × List UInt8 :=
  if Lib.hasPrefix s [13, 10] then (s.take 2, s.drop 2)
  else if Lib.index s [13, 10, 13, 10] < 0 then (s, [])
  else (s.take ((Lib.index s [13, 10, 13, 10]).toNat + 4), s.drop ((Lib.index s [13, 10, 13, 10]).toNat + 4))
def lastGrow (out : List Fld) (l : List UInt8) : List Fld :=
  match out.getLast? with
  | none => []
  | some f => out.dropLast ++ [(f.1, trimW (f.2 ++ [32] ++ trimB l))]
/-- what the lines of a head say: an error and its line, or the fields -/
def fieldsF : Nat → List (List UInt8) → List Fld → (Nat × Nat) ⊕ List Fld
  | _, [], out => .inr out
  | i, l :: r, out =>
    if l = [] then fieldsF (i + 1) r out
    else if badL l then .inl (3, i)
    else if blankC (l.headD 0) then (if out = [] then .inl (3, i) else fieldsF (i + 1) r (lastGrow out l))
    else if (!(Lib.cut l [58]).2.2 || !nameL (Lib.cut l [58]).1) then .inl (3, i)
    else if out.length = 40 then .inl (4, i)
    else fieldsF (i + 1) r (out ++ [((Lib.cut l [58]).1, trimB (Lib.cut l [58]).2.1)])
def fieldsL (s : List UInt8) : (Nat × Nat) ⊕ List Fld := fieldsF 0 (Lib.split (splitHd s).1 [13, 10]) []
end Go.Proofs.YtcahhnjponeeeaaGreatDoor
namespace Go.Proofs.YtcahhnjponeeeaaGreatDoor
open Go.Sort
/-- the system's flags, in their order -/
def sysL : List (List UInt8) := [[92, 83, 101, 101, 110], [92, 65, 110, 115, 119, 101, 114, 101, 100], [92, 70, 108, 97, 103, 103, 101, 100], [92, 68, 101, 108, 101, 116, 101, 100], [92, 68, 114, 97, 102, 116]]
/-- the letters of other flags -/
def letterC (c : UInt8) : Bool := (97 ≤ c && c ≤ 122) || (65 ≤ c && c ≤ 90) || (48 ≤ c && c ≤ 57) || c == 95 || c == 36
/-- how a flag is called, or what is wrong -/
def nameF (s : List UInt8) : Nat ⊕ List UInt8 :=
  if s.head? = some 92 then match sysL.find? (fun t => smallL t == smallL s) with
    | some t => .inr t
    | none => .inl 3
  else if s = [] ∨ s.all letterC = false then .inl 3 else if 20 < s.length then .inl 4 else .inr s
end Go.Proofs.YtcahhnjponeeeaaGreatDoor
namespace Go.Proofs.YtcahhnjponeeeaaGreatDoor
/-- numbers from one to another one; 0: the greatest one -/
abbrev Rg := Int × Int
/-- a number of a set -/
def oneF (s : List UInt8) (v : Int) : Option Int := if 1 ≤ v ∧ v ≤ 2147483647 ∧ Lib.itoa v = s then some v else none
def numS (s : List UInt8) : Option Int :=
  if s = [42] then some 0 else match Lib.atoiAll s with
    | .ok v => oneF s v
    | _ => none
/-- what stands between commas -/
def commas : List UInt8 → List (List UInt8)
  | [] => [[]]
  | c :: s => if c = 44 then [] :: commas s else match commas s with
    | h :: t => (c :: h) :: t
    | [] => [[c]]
theorem commas_ne (s : List UInt8) : commas s ≠ [] := by
  cases s with
  | nil => simp [commas]
  | cons c s =>
    unfold commas
    split
    · simp
    · split <;> simp
theorem commas_none : ∀ {s : List UInt8}, 44 ∉ s → commas s = [s]
  | [], _ => rfl
  | c :: s, h => by
    have ih := commas_none (s := s) fun hm => h (List.mem_cons_of_mem _ hm)
    rw [commas, if_neg (by rintro rfl; exact h (List.mem_cons_self ..)), ih]
theorem commas_cut : ∀ (a s : List UInt8), 44 ∉ a → commas (a ++ 44 :: s) = a :: commas s
  | [], s, _ => by rw [List.nil_append, commas, if_pos rfl]
  | c :: a, s, h => by
    have ih := commas_cut a s fun hm => h (List.mem_cons_of_mem _ hm)
    rw [List.cons_append, commas, if_neg (by rintro rfl; exact h (List.mem_cons_self ..)), ih]
/-- where a byte stands first -/
theorem index_byte (s : List UInt8) (c : UInt8) : (Lib.index s [c] = -1 ∧ c ∉ s) ∨ ∃ i : Nat, Lib.index s [c] = i ∧ i < s.length ∧ s = s.take i ++ c :: s.drop (i + 1) ∧ c ∉ s.take i := by
  rcases Lib.index_spec s [c] with ⟨h1, h2⟩ | ⟨i, h1, h2, h3, h4⟩
  · refine Or.inl ⟨h1, fun hm => ?_⟩
    obtain ⟨i, hi⟩ := List.mem_iff_getElem?.1 hm
    have hl := (List.getElem?_eq_some_iff.1 hi).1
    have := h2 i (by omega)
    unfold Lib.occAt at this
    rw [List.drop_eq_getElem_cons hl, List.isPrefixOf_cons_cons, (List.getElem?_eq_some_iff.1 hi).2] at this
    simp at this
  · have hr := Lib.index_room s [c] (by omega)
    have hl : i < s.length := by simp at hr; omega
    refine Or.inr ⟨i, h1, hl, ?_, fun hm => ?_⟩
    · have hc : s[i] = c := by
        unfold Lib.occAt at h3
        rw [List.drop_eq_getElem_cons hl, List.isPrefixOf_cons_cons, Bool.and_eq_true, beq_iff_eq] at h3
        exact h3.1.symm
      conv => lhs; rw [← List.take_append_drop i s, List.drop_eq_getElem_cons hl, hc]
    · obtain ⟨j, hj⟩ := List.mem_iff_getElem?.1 hm
      have hjl := (List.getElem?_eq_some_iff.1 hj).1
      rw [List.length_take] at hjl
      rw [List.getElem?_take_of_lt (by omega)] at hj
      have := h4 j (by omega)
      unfold Lib.occAt at this
      rw [List.drop_eq_getElem_cons (by omega), List.isPrefixOf_cons_cons, (List.getElem?_eq_some_iff.1 hj).2] at this
      simp at this
theorem commas_last {s : List UInt8} (h : Lib.index s [44] < 0) : commas s = [s] := by
  rcases index_byte s 44 with ⟨_, h2⟩ | ⟨i, h1, _⟩
  · exact commas_none h2
  · omega
theorem commas_next {s : List UInt8} {i : Nat} (h : Lib.index s [44] = (i : Int)) : commas s = s.take i :: commas (s.drop (i + 1)) := by
  rcases index_byte s 44 with ⟨h1, _⟩ | ⟨j, h1, _, h3, h4⟩
  · omega
  · obtain rfl : j = i := by omega
    conv => lhs; rw [h3]
    exact commas_cut _ _ h4
/-- numbers, or two with : between -/
def pairF (t : List UInt8) : Option Rg :=
  if Lib.index t [58] < 0 then (match numS t with | some x => some (x, x) | none => none)
  else match numS (t.take (Lib.index t [58]).toNat), numS (t.drop ((Lib.index t [58]).toNat + 1)) with
    | some x, some y => some (x, y)
    | _, _ => none
def setsF : List (List UInt8) → List Rg → Except Nat (List Rg)
  | [], acc => .ok acc
  | t :: r, acc => match pairF t with
    | none => .error 3
    | some p => if acc.length = 20 then .error 4 else setsF r (acc ++ [p])
def parseS (s : List UInt8) : Except Nat (List Rg) := setsF (commas s) []
/-- one of a range -/
def inR (n g : Int) (r : Rg) : Bool := decide (min (if r.1 = 0 then g else r.1) (if r.2 = 0 then g else r.2) ≤ n) && decide (n ≤ max (if r.1 = 0 then g else r.1) (if r.2 = 0 then g else r.2))
def hasS (l : List Rg) (n g : Int) : Bool := l.any (inR n g)
end Go.Proofs.YtcahhnjponeeeaaGreatDoor
namespace Go.Proofs.YtcahhnjponeeeaaGreatDoor
/-- a word: its kind (3: a list), its text, its own words -/
inductive Wd where
  | mk (kind : Int) (text : List UInt8) (list : List Wd)
def Wd.kind : Wd → Int
  | .mk k _ _ => k
def Wd.text : Wd → List UInt8
  | .mk _ t _ => t
def Wd.list : Wd → List Wd
  | .mk _ _ l => l
/-- what is looked for -/
inductive KeyP where
  | mk (code : Int) (name text : List UInt8) (n : Int) (set : List Rg) (keys : List KeyP)
/-- what is read: an error, or a value and what is left -/
abbrev KeyE := Except Nat (KeyP × List Wd × Nat)
def wordK : List Wd → Except Nat (List UInt8 × List Wd)
  | [] => .error 3
  | t :: l => if t.kind = 3 then .error 3 else .ok (t.text, l)
def numK (s : List UInt8) : Option Int := match Lib.atoiAll s with
  | .ok v => if 0 ≤ v ∧ v ≤ 2147483647 ∧ Lib.itoa v = s then some v else none
  | _ => none
def numberK (l : List Wd) : Except Nat (Int × List Wd) := match wordK l with
  | .error e => .error e
  | .ok (s, l) => match numK s with
    | some v => .ok (v, l)
    | none => .error 3
def flagK (l : List Wd) : Except Nat (List UInt8 × List Wd) := match wordK l with
  | .error e => .error e
  | .ok (s, l) => match nameF s with
    | .inr t => .ok (t, l)
    | .inl e => .error e
/-- the five flags that are words of their own, as they are written -/
def wordsL : List (List UInt8) := [[83, 69, 69, 78], [65, 78, 83, 87, 69, 82, 69, 68], [70, 76, 65, 71, 71, 69, 68], [68, 69, 76, 69, 84, 69, 68], [68, 82, 65, 70, 84]]
def namesL : List (List UInt8) := [[92, 83, 101, 101, 110], [92, 65, 110, 115, 119, 101, 114, 101, 100], [92, 70, 108, 97, 103, 103, 101, 100], [92, 68, 101, 108, 101, 116, 101, 100], [92, 68, 114, 97, 102, 116]]
/-- what stands behind UN, and whether it stood there -/
def unK (s : List UInt8) : List UInt8 × Bool := if Lib.hasPrefix s [85, 78] then (s.drop 2, true) else (s, false)
def sysK (s : List UInt8) : Option (List UInt8 × Bool) :=
  if (unK s).1 ∈ wordsL then some ((namesL.getD (wordsL.idxOf (unK s).1) []), (unK s).2) else none
def numsK (s : List UInt8) : Int :=
  if s = [76, 65, 82, 71, 69, 82] then 6 else if s = [83, 77, 65, 76, 76, 69, 82] then 7 else if s = [66, 69, 70, 79, 82, 69] then 8
  else if s = [79, 78] then 9 else if s = [83, 73, 78, 67, 69] then 10 else 0
def notK (k : KeyP) : KeyP := .mk 13 [] [] 0 [] [k]
/-- keys, up to the words' end -/
def loopK (f : List Wd → Nat → KeyE) : Nat → List Wd → Nat → List KeyP → Except Nat (List KeyP × Nat)
  | 0, _, _, _ => .error 99
  | fu + 1, l, n, acc => match f l n with
    | .error e => .error e
    | .ok (k, l', n') => if l' = [] then .ok (acc ++ [k], n') else loopK f fu l' n' (acc ++ [k])
def allK : List KeyP → KeyP
  | [k] => k
  | l => .mk 15 [] [] 0 [] l
def keysK (f : List Wd → Nat → KeyE) (l : List Wd) (n : Nat) : Except Nat (KeyP × Nat) := match loopK f (l.length + 1) l n [] with
  | .error e => .error e
  | .ok (ks, n') => .ok (allK ks, n')
/-- the words behind a word that asks for some -/
def headK (nm : List UInt8) (l : List Wd) (n : Nat) : KeyE := match wordK l with
  | .error e => .error e
  | .ok (t, l') => .ok (.mk 3 nm t 0 [] [], l', n)
def textK (code : Int) (l : List Wd) (n : Nat) : KeyE := match wordK l with
  | .error e => .error e
  | .ok (t, l') => .ok (.mk code [] t 0 [] [], l', n)
/-- what a word that is no flag and asks for no number begins -/
def moreK (f : List Wd → Nat → KeyE) (w s : List UInt8) (l : List Wd) (n : Nat) : KeyE :=
  if s = [70, 82, 79, 77] ∨ s = [84, 79] ∨ s = [83, 85, 66, 74, 69, 67, 84] ∨ s = [67, 67] then headK (smallL s) l n
  else if s = [65, 76, 76] then .ok (.mk 1 [] [] 0 [] [], l, n)
  else if s = [75, 69, 89, 87, 79, 82, 68] then match flagK l with
    | .error e => .error e
    | .ok (t, l') => .ok (.mk 2 t [] 0 [] [], l', n)
  else if s = [85, 78, 75, 69, 89, 87, 79, 82, 68] then match flagK l with
    | .error e => .error e
    | .ok (t, l') => .ok (notK (.mk 2 t [] 0 [] []), l', n)
  else if s = [72, 69, 65, 68, 69, 82] then match wordK l with
    | .error e => .error e
    | .ok (t, l') => headK (smallL t) l' n
  else if s = [66, 79, 68, 89] then textK 4 l n
  else if s = [84, 69, 88, 84] then textK 5 l n
  else if s = [85, 73, 68] then match wordK l with
    | .error e => .error e
    | .ok (t, l') => match parseS t with
      | .error e => .error e
      | .ok r => .ok (.mk 11 [] [] 0 r [], l', n)
  else if s = [78, 79, 84] then match f l n with
    | .error e => .error e
    | .ok (k, l', n') => .ok (notK k, l', n')
  else if s = [79, 82] then match f l n with
    | .error e => .error e
    | .ok (a, l1, n1) => match f l1 n1 with
      | .error e => .error e
      | .ok (b, l2, n2) => .ok (.mk 14 [] [] 0 [] [a, b], l2, n2)
  else match parseS w with
    | .error e => .error e
    | .ok r => .ok (.mk 12 [] [] 0 r [], l, n)
/-- what a word begins -/
def plainK (f : List Wd → Nat → KeyE) (w : List UInt8) (l : List Wd) (n : Nat) : KeyE := match sysK (greatL w) with
  | some (t, un) => .ok (if un then notK (.mk 2 t [] 0 [] []) else .mk 2 t [] 0 [] [], l, n)
  | none => if 0 < numsK (greatL w) then match numberK l with
      | .error e => .error e
      | .ok (v, l') => .ok (.mk (numsK (greatL w)) [] [] v [] [], l', n)
    else moreK f w (greatL w) l n
/-- a key, with so much depth left -/
def keyK : Nat → List Wd → Nat → KeyE
  | 0, _, _ => .error 4
  | d + 1, l, n => if 60 < n + 1 then .error 4 else match l with
    | [] => .error 3
    | t :: l' => if t.kind = 3 then match keysK (keyK d) t.list (n + 1) with
        | .error e => .error e
        | .ok (k, n') => .ok (k, l', n')
      else plainK (keyK d) t.text l' (n + 1)
theorem keyK_zero (l : List Wd) (n : Nat) : keyK 0 l n = .error 4 := rfl
theorem keyK_nil (d n : Nat) : keyK (d + 1) [] n = if 60 < n + 1 then .error 4 else .error 3 := rfl
theorem keyK_cons (d : Nat) (t : Wd) (l : List Wd) (n : Nat) : keyK (d + 1) (t :: l) n = if 60 < n + 1 then .error 4 else if t.kind = 3 then (match keysK (keyK d) t.list (n + 1) with | .error e => .error e | .ok (k, n') => .ok (k, l, n')) else plainK (keyK d) t.text l (n + 1) := rfl
def parseK (l : List Wd) : Except Nat KeyP := match keysK (keyK 7) l 0 with
  | .error e => .error e
  | .ok (k, _) => .ok k
/-- whether some letters stand in a text, whatever letters are great -/
def hasK (s t : List UInt8) : Bool := Lib.contains (smallL s) (smallL t)
/-- a letter, where it stands, and in what -/
structure LetK where
  uid : Int
  flags : List (List UInt8)
  day : Int
  text : List UInt8
  which : Int
  many : Int
  greatest : Int
def headIs (text name t : List UInt8) : Bool := match fieldsL text with
  | .inl _ => false
  | .inr l => l.any fun f => smallL f.1 == name && hasK f.2 t
mutual
def holdsK (x : LetK) : KeyP → Bool
  | .mk code name text n set keys =>
    if code = 1 then true else if code = 2 then decide (name ∈ x.flags) else if code = 3 then headIs x.text name text
    else if code = 4 then hasK (splitHd x.text).2 text else if code = 5 then hasK x.text text
    else if code = 6 then decide (n < (x.text.length : Int)) else if code = 7 then decide ((x.text.length : Int) < n)
    else if code = 8 then decide (x.day < n) else if code = 9 then decide (x.day = n) else if code = 10 then decide (n ≤ x.day)
    else if code = 11 then hasS set x.uid x.greatest else if code = 12 then hasS set x.which x.many
    else if code = 13 then !holdsOne x keys else if code = 14 then holdsAny x keys else holdsAll x keys
def holdsOne (x : LetK) : List KeyP → Bool
  | [] => false
  | k :: _ => holdsK x k
def holdsAny (x : LetK) : List KeyP → Bool
  | [] => false
  | k :: l => holdsK x k || holdsAny x l
def holdsAll (x : LetK) : List KeyP → Bool
  | [] => true
  | k :: l => holdsK x k && holdsAll x l
end
end Go.Proofs.YtcahhnjponeeeaaGreatDoor
namespace Go.Proofs.YtcahhnjponeeeaaGreatDoor
/-- what has no blank at its ends stays -/
theorem dropWhile_id {p : UInt8 → Bool} : ∀ (l : List UInt8), (∀ c, l.head? = some c → p c = false) → l.dropWhile p = l
  | [], _ => rfl
  | c :: l, h => by rw [List.dropWhile_cons, h c rfl]; rfl
theorem trimS_id (l cs : List UInt8) (h1 : ∀ c, l.head? = some c → cs.contains c = false) (h2 : ∀ c, l.getLast? = some c → cs.contains c = false) : Lib.trimS l cs = l := by
  unfold Lib.trimS Lib.trimRightS Lib.trimLeftS
  rw [dropWhile_id l.reverse (by intro c hc; rw [List.head?_reverse] at hc; exact h2 c hc), List.reverse_reverse, dropWhile_id l h1]
theorem trimLeft_cons (c : UInt8) (l cs : List UInt8) (h : cs.contains c = true) : Lib.trimLeftS (c :: l) cs = Lib.trimLeftS l cs := by
  unfold Lib.trimLeftS; rw [List.dropWhile_cons, h]; rfl
theorem trimRight_snoc (c : UInt8) (l cs : List UInt8) (h : cs.contains c = true) : Lib.trimRightS (l ++ [c]) cs = Lib.trimRightS l cs := by
  unfold Lib.trimRightS; rw [List.reverse_append]; simp only [List.reverse_cons, List.reverse_nil, List.nil_append, List.singleton_append]; rw [List.dropWhile_cons, h]; rfl
theorem trimS_snoc (c : UInt8) (l cs : List UInt8) (h : cs.contains c = true) : Lib.trimS (l ++ [c]) cs = Lib.trimS l cs := by
  unfold Lib.trimS; rw [trimRight_snoc c l cs h]
theorem dropWhile_all {p : UInt8 → Bool} : ∀ (l : List UInt8), l.dropWhile p = [] ↔ ∀ x ∈ l, p x = true
  | [] => by simp
  | c :: l => by
    rw [List.dropWhile_cons]
    by_cases hc : p c = true
    · rw [if_pos hc, dropWhile_all l]; simp [hc]
    · rw [if_neg hc]; simp [hc]
theorem trimS_cons (c : UInt8) (l cs : List UInt8) (h : cs.contains c = true) : Lib.trimS (c :: l) cs = Lib.trimS l cs := by
  unfold Lib.trimS
  cases hl : l.reverse.dropWhile (cs.contains ·) with
  | nil =>
    have hall : ∀ x ∈ l.reverse, cs.contains x = true := by
      rw [dropWhile_all] at hl
      exact fun x hx => hl x hx
    have h2 : (c :: l).reverse.dropWhile (cs.contains ·) = [] := by
      rw [dropWhile_all]
      intro x hx
      rw [List.reverse_cons, List.mem_append] at hx
      rcases hx with hx | hx
      · exact hall x hx
      · simp at hx; rw [hx]; exact h
    unfold Lib.trimRightS
    rw [h2, hl]
  | cons d r =>
    have h2 : (c :: l).reverse.dropWhile (cs.contains ·) = (d :: r) ++ [c] := by
      rw [List.reverse_cons, List.dropWhile_append, hl]
      simp
    unfold Lib.trimRightS
    rw [h2, hl, List.reverse_append]
    exact trimLeft_cons c _ cs h
section
variable (v : List UInt8) (h : Lib.containsAny v [59, 34, 61, 32, 9] = false)
include h
variable (hne : v ≠ [])
include hne
omit h hne in
omit hne in
omit hne in
end
end Go.Proofs.YtcahhnjponeeeaaGreatDoor
namespace Go.Proofs.YtcahhnjponeeeaaGreatDoor
/-- a reader that takes words, and counts up to 60 -/
def StepK (f : List Wd → Nat → KeyE) : Prop := ∀ l n k r a, f l n = .ok (k, r, a) → r.length < l.length ∧ n < a ∧ a ≤ 60
/-- a reader that takes no words more than there are -/
def StepW (f : List Wd → Nat → KeyE) : Prop := ∀ l n k r a, f l n = .ok (k, r, a) → n ≤ 60 → r.length ≤ l.length ∧ n ≤ a ∧ a ≤ 60
theorem word_step {l l' : List Wd} {s : List UInt8} (h : wordK l = .ok (s, l')) : l'.length < l.length := by
  cases l with
  | nil => rw [wordK] at h; cases h
  | cons t l =>
    rw [wordK] at h
    split at h
    · cases h
    · cases h; simp
theorem number_step {l l' : List Wd} {s : Int} (h : numberK l = .ok (s, l')) : l'.length < l.length := by
  unfold numberK at h
  cases hw : wordK l with
  | error e => rw [hw] at h; cases h
  | ok x =>
    rw [hw] at h
    simp only at h
    split at h
    · cases h; exact word_step hw
    · cases h
theorem flag_step {l l' : List Wd} {s : List UInt8} (h : flagK l = .ok (s, l')) : l'.length < l.length := by
  unfold flagK at h
  cases hw : wordK l with
  | error e => rw [hw] at h; cases h
  | ok x =>
    rw [hw] at h
    simp only at h
    split at h
    · cases h; exact word_step hw
    · cases h
theorem head_step {nm : List UInt8} {l : List Wd} {n : Nat} {k : KeyP} {r : List Wd} {a : Nat} (h : headK nm l n = .ok (k, r, a)) : r.length < l.length ∧ a = n := by
  unfold headK at h
  cases hw : wordK l with
  | error e => rw [hw] at h; cases h
  | ok x => rw [hw] at h; cases h; exact ⟨word_step hw, rfl⟩
theorem text_step {c : Int} {l : List Wd} {n : Nat} {k : KeyP} {r : List Wd} {a : Nat} (h : textK c l n = .ok (k, r, a)) : r.length < l.length ∧ a = n := by
  unfold textK at h
  cases hw : wordK l with
  | error e => rw [hw] at h; cases h
  | ok x => rw [hw] at h; cases h; exact ⟨word_step hw, rfl⟩
theorem more_step {f : List Wd → Nat → KeyE} (hf : StepK f) (w s : List UInt8) : StepW (moreK f w s) := by
  intro l n k r a h hn
  unfold moreK at h
  by_cases q0 : s = [70, 82, 79, 77] ∨ s = [84, 79] ∨ s = [83, 85, 66, 74, 69, 67, 84] ∨ s = [67, 67]
  · rw [if_pos q0] at h
    obtain ⟨h1, h2⟩ := head_step h
    omega
  rw [if_neg q0] at h
  by_cases q1 : s = [65, 76, 76]
  · rw [if_pos q1] at h
    cases h; exact ⟨Nat.le_refl _, Nat.le_refl _, hn⟩
  rw [if_neg q1] at h
  by_cases q2 : s = [75, 69, 89, 87, 79, 82, 68]
  · rw [if_pos q2] at h
    cases hw : flagK l with
    | error e => rw [hw] at h; cases h
    | ok x => rw [hw] at h; cases h; have := flag_step hw; omega
  rw [if_neg q2] at h
  by_cases q3 : s = [85, 78, 75, 69, 89, 87, 79, 82, 68]
  · rw [if_pos q3] at h
    cases hw : flagK l with
    | error e => rw [hw] at h; cases h
    | ok x => rw [hw] at h; cases h; have := flag_step hw; omega
  rw [if_neg q3] at h
  by_cases q4 : s = [72, 69, 65, 68, 69, 82]
  · rw [if_pos q4] at h
    cases hw : wordK l with
    | error e => rw [hw] at h; cases h
    | ok x =>
      rw [hw] at h
      obtain ⟨h1, h2⟩ := head_step h
      have := word_step hw
      omega
  rw [if_neg q4] at h
  by_cases q5 : s = [66, 79, 68, 89]
  · rw [if_pos q5] at h
    obtain ⟨h1, h2⟩ := text_step h
    omega
  rw [if_neg q5] at h
  by_cases q6 : s = [84, 69, 88, 84]
  · rw [if_pos q6] at h
    obtain ⟨h1, h2⟩ := text_step h
    omega
  rw [if_neg q6] at h
  by_cases q7 : s = [85, 73, 68]
  · rw [if_pos q7] at h
    cases hw : wordK l with
    | error e => rw [hw] at h; cases h
    | ok x =>
      rw [hw] at h
      simp only at h
      have := word_step hw
      split at h
      · cases h
      · cases h; omega
  rw [if_neg q7] at h
  by_cases q8 : s = [78, 79, 84]
  · rw [if_pos q8] at h
    cases hw : f l n with
    | error e => rw [hw] at h; cases h
    | ok x =>
      obtain ⟨k1, r1, a1⟩ := x
      have := hf _ _ _ _ _ hw
      rw [hw] at h; cases h; omega
  rw [if_neg q8] at h
  by_cases q9 : s = [79, 82]
  · rw [if_pos q9] at h
    cases hw : f l n with
    | error e => rw [hw] at h; cases h
    | ok x =>
      obtain ⟨k1, r1, a1⟩ := x
      have h1 := hf _ _ _ _ _ hw
      rw [hw] at h
      simp only at h
      cases hw2 : f r1 a1 with
      | error e => rw [hw2] at h; cases h
      | ok y =>
        obtain ⟨k2, r2, a2⟩ := y
        have h2 := hf _ _ _ _ _ hw2
        rw [hw2] at h; cases h; omega
  rw [if_neg q9] at h
  cases hp : parseS w with
  | error e => rw [hp] at h; cases h
  | ok y => rw [hp] at h; cases h; exact ⟨Nat.le_refl _, Nat.le_refl _, hn⟩
theorem plain_step {f : List Wd → Nat → KeyE} (hf : StepK f) (w : List UInt8) : StepW (plainK f w) := by
  intro l n k r a h hn
  unfold plainK at h
  cases hs : sysK (greatL w) with
  | some x => rw [hs] at h; cases h; exact ⟨Nat.le_refl _, Nat.le_refl _, hn⟩
  | none =>
    rw [hs] at h
    simp only at h
    split at h
    · cases hw : numberK l with
      | error e => rw [hw] at h; cases h
      | ok x => rw [hw] at h; cases h; have := number_step hw; omega
    · exact more_step hf _ _ _ _ _ _ _ h hn
theorem loop_step {f : List Wd → Nat → KeyE} (hf : StepK f) : ∀ fu l n acc ks a, loopK f fu l n acc = .ok (ks, a) → n < a ∧ a ≤ 60
  | 0, l, n, acc, ks, a, h => by rw [loopK] at h; cases h
  | fu + 1, l, n, acc, ks, a, h => by
    rw [loopK] at h
    cases hw : f l n with
    | error e => rw [hw] at h; cases h
    | ok x =>
      obtain ⟨k1, r1, a1⟩ := x
      have h1 := hf _ _ _ _ _ hw
      rw [hw] at h
      by_cases hr : r1 = []
      · simp only [hr, if_true] at h
        cases h; omega
      · simp only [if_neg hr] at h
        have := loop_step hf fu r1 a1 _ ks a h
        omega
theorem keys_step {f : List Wd → Nat → KeyE} (hf : StepK f) {l : List Wd} {n : Nat} {k : KeyP} {a : Nat} (h : keysK f l n = .ok (k, a)) : n < a ∧ a ≤ 60 := by
  unfold keysK at h
  cases hw : loopK f (l.length + 1) l n [] with
  | error e => rw [hw] at h; cases h
  | ok x => rw [hw] at h; cases h; exact loop_step hf _ _ _ _ _ _ hw
theorem key_step : ∀ d : Nat, StepK (keyK d)
  | 0 => fun l n k r a h => by rw [keyK_zero] at h; cases h
  | d + 1 => fun l n k r a h => by
    cases l with
    | nil =>
      rw [keyK_nil] at h
      split at h <;> cases h
    | cons t l =>
      rw [keyK_cons] at h
      split at h
      · cases h
      split at h
      · cases hw : keysK (keyK d) t.list (n + 1) with
        | error e => rw [hw] at h; cases h
        | ok x =>
          have := keys_step (key_step d) hw
          rw [hw] at h; cases h
          simp only [List.length_cons]
          omega
      · have := plain_step (key_step d) _ _ _ _ _ _ h (by omega)
        simp only [List.length_cons]
        omega
/-- the loop's steps -/
theorem loop_more {f : List Wd → Nat → KeyE} {fu : Nat} {l l' : List Wd} {n n' : Nat} {acc : List KeyP} {k : KeyP} (h : f l n = .ok (k, l', n')) : loopK f (fu + 1) l n acc = if l' = [] then .ok (acc ++ [k], n') else loopK f fu l' n' (acc ++ [k]) := by
  rw [loopK, h]
theorem loop_bad {f : List Wd → Nat → KeyE} {fu E : Nat} {l : List Wd} {n : Nat} {acc : List KeyP} (h : f l n = .error E) : loopK f (fu + 1) l n acc = .error E := by
  rw [loopK, h]
end Go.Proofs.YtcahhnjponeeeaaGreatDoor
namespace Go.Proofs.YtcahhnjponeeeaaGreatDoor
end Go.Proofs.YtcahhnjponeeeaaGreatDoor
namespace Go.Proofs.YtcahhnjponeeeaaGreatDoor
/-- where the empty line is, told by the first line's end -/
theorem index4_step : ∀ (r : List UInt8) (k : Nat), Lib.index r [13, 10] = k →
    Lib.index r [13, 10, 13, 10] = (if Lib.hasPrefix (r.drop (k + 2)) [13, 10] then (k : Int) else if Lib.index (r.drop (k + 2)) [13, 10, 13, 10] < 0 then -1 else (k : Int) + 2 + Lib.index (r.drop (k + 2)) [13, 10, 13, 10])
  | [], k, h => by simp [Lib.index] at h
  | b :: l, k, h => by
    have hge := Lib.index_ge
    unfold Lib.index at h
    by_cases hp : List.isPrefixOf [13, 10] (b :: l) = true
    · rw [if_pos hp] at h
      have hk : k = 0 := by omega
      subst hk
      obtain ⟨r, hr⟩ : ∃ r, b :: l = 13 :: 10 :: r := by
        obtain ⟨t, ht⟩ := List.isPrefixOf_iff_prefix.1 hp
        exact ⟨t, ht.symm⟩
      rw [hr]
      show _ = if Lib.hasPrefix r [13, 10] then _ else if Lib.index r [13, 10, 13, 10] < 0 then _ else _ + Lib.index r [13, 10, 13, 10]
      have e1 : List.isPrefixOf [13, 10, 13, 10] (13 :: 10 :: r) = Lib.hasPrefix r [13, 10] := by simp [List.isPrefixOf, Lib.hasPrefix]
      have e2 : List.isPrefixOf [13, 10, 13, 10] (10 :: r) = false := by simp [List.isPrefixOf]
      have hg := hge r [13, 10, 13, 10]
      rw [Lib.index, e1]
      by_cases h1 : Lib.hasPrefix r [13, 10] = true
      · rw [if_pos h1, if_pos h1]; rfl
      · have e3 : Lib.index (10 :: r) [13, 10, 13, 10] = if Lib.index r [13, 10, 13, 10] = -1 then -1 else Lib.index r [13, 10, 13, 10] + 1 := by
          rw [Lib.index, e2]
          by_cases h2 : Lib.index r [13, 10, 13, 10] = -1
          · rw [if_pos h2, h2]; rfl
          · have h3 : (Lib.index r [13, 10, 13, 10] == -1) = false := by simpa using h2
            rw [h3, if_neg h2]; rfl
        rw [if_neg h1, if_neg h1, e3]
        by_cases h2 : Lib.index r [13, 10, 13, 10] = -1
        · rw [h2]; rfl
        · have h4 : (Lib.index r [13, 10, 13, 10] + 1 == -1) = false := by rw [beq_eq_false_iff_ne]; omega
          rw [if_neg h2, h4, if_neg (by decide), if_neg (by omega)]
          simp; omega
    · rw [if_neg hp] at h
      have hm : Lib.index l [13, 10] ≠ -1 := by
        intro e; rw [e] at h; simp at h
      have hm2 : (Lib.index l [13, 10] == -1) = false := by simpa using hm
      rw [hm2, if_neg (by decide)] at h
      have hg := hge l [13, 10]
      obtain ⟨j, rfl⟩ : ∃ j, k = j + 1 := ⟨k - 1, by omega⟩
      have ih := index4_step l j (by omega)
      have e4 : List.isPrefixOf [13, 10, 13, 10] (b :: l) = false := by
        cases hq : List.isPrefixOf [13, 10, 13, 10] (b :: l) with
        | false => rfl
        | true =>
          exfalso; apply hp
          rw [List.isPrefixOf_iff_prefix] at hq ⊢
          exact List.IsPrefix.trans ⟨[13, 10], rfl⟩ hq
      rw [Lib.index, e4, if_neg (by decide), ih]
      have e5 : (b :: l).drop (j + 1 + 2) = l.drop (j + 2) := by
        rw [show j + 1 + 2 = (j + 2) + 1 by omega, List.drop_succ_cons]
      rw [e5]
      have hg2 := hge (l.drop (j + 2)) [13, 10, 13, 10]
      by_cases h1 : Lib.hasPrefix (l.drop (j + 2)) [13, 10] = true
      · simp only [h1, if_true]
        have : ((j : Int) == -1) = false := by rw [beq_eq_false_iff_ne]; omega
        rw [this, if_neg (by decide)]; simp
      · simp only [h1, Bool.false_eq_true, if_false]
        by_cases h2 : Lib.index (l.drop (j + 2)) [13, 10, 13, 10] < 0
        · simp only [h2, if_true]; rfl
        · simp only [h2, if_false]
          have : ((j : Int) + 2 + Lib.index (l.drop (j + 2)) [13, 10, 13, 10] == -1) = false := by rw [beq_eq_false_iff_ne]; omega
          rw [this, if_neg (by decide)]
          simp; omega
theorem index4_none {r : List UInt8} (h : Lib.index r [13, 10] < 0) : Lib.index r [13, 10, 13, 10] = -1 := by
  have hg := Lib.index_ge r [13, 10]
  rcases Lib.index_spec r [13, 10] with ⟨_, hn⟩ | ⟨i, hi, _⟩
  · refine Lib.index_none (fun j hj => ?_)
    cases hq : Lib.occAt r [13, 10, 13, 10] j with
    | false => rfl
    | true =>
      have h2 := hn j hj
      unfold Lib.occAt at hq h2
      rw [List.isPrefixOf_iff_prefix] at hq
      have : List.isPrefixOf [13, 10] (r.drop j) = true := by
        rw [List.isPrefixOf_iff_prefix]
        exact List.IsPrefix.trans ⟨[13, 10], rfl⟩ hq
      rw [this] at h2; cases h2
  · omega
/-- a text split from a place on, at a line's beginning -/
def splFrom (s : List UInt8) (at' : Nat) : List UInt8 × List UInt8 :=
  if Lib.hasPrefix (s.drop at') [13, 10] then (s.take (at' + 2), s.drop (at' + 2))
  else if Lib.index (s.drop at') [13, 10, 13, 10] < 0 then (s, [])
  else (s.take (at' + (Lib.index (s.drop at') [13, 10, 13, 10]).toNat + 4), s.drop (at' + (Lib.index (s.drop at') [13, 10, 13, 10]).toNat + 4))
theorem splFrom_zero (s : List UInt8) : splFrom s 0 = splitHd s := by
  unfold splFrom splitHd
  simp only [List.drop_zero, Nat.zero_add]
theorem index_zero {r : List UInt8} : Lib.index r [13, 10] = 0 ↔ Lib.hasPrefix r [13, 10] = true := by
  cases r with
  | nil => simp [Lib.index, Lib.hasPrefix, List.isPrefixOf]
  | cons b l =>
    unfold Lib.index Lib.hasPrefix
    by_cases h : List.isPrefixOf [13, 10] (b :: l) = true
    · rw [if_pos h]; simp [h]
    · have hg := Lib.index_ge l [13, 10]
      rw [if_neg h]
      by_cases h2 : Lib.index l [13, 10] = -1
      · rw [h2]; simp [h]
      · have : (Lib.index l [13, 10] == -1) = false := by simpa using h2
        rw [this, if_neg (by decide)]
        constructor
        · intro h3; omega
        · intro h3; exact absurd h3 h
theorem splFrom_none {s : List UInt8} {a : Nat} (h : Lib.index (s.drop a) [13, 10] < 0) : splFrom s a = (s, []) := by
  unfold splFrom
  rw [if_neg (by rw [← index_zero]; omega), index4_none h, if_pos (by decide)]
theorem splFrom_here {s : List UInt8} {a : Nat} (h : Lib.index (s.drop a) [13, 10] = 0) : splFrom s a = (s.take (a + 2), s.drop (a + 2)) := by
  unfold splFrom
  rw [if_pos (index_zero.1 h)]
theorem splFrom_step {s : List UInt8} {a k : Nat} (h : Lib.index (s.drop a) [13, 10] = k) (hk : 0 < k) : splFrom s a = splFrom s (a + k + 2) := by
  have h4 := index4_step _ _ h
  have hg := Lib.index_ge ((s.drop a).drop (k + 2)) [13, 10, 13, 10]
  unfold splFrom
  rw [if_neg (by rw [← index_zero, h]; omega), h4, List.drop_drop, show a + (k + 2) = a + k + 2 by omega]
  rw [List.drop_drop, show a + (k + 2) = a + k + 2 by omega] at hg
  by_cases h1 : Lib.hasPrefix (s.drop (a + k + 2)) [13, 10] = true
  · simp only [h1, if_true]
    rw [if_neg (by omega), Int.toNat_natCast, show a + k + 4 = a + k + 2 + 2 by omega]
  · simp only [h1, Bool.false_eq_true, if_false]
    by_cases h2 : Lib.index (s.drop (a + k + 2)) [13, 10, 13, 10] < 0
    · simp only [h2, if_true]; rfl
    · simp only [h2, if_false]
      rw [if_neg (by omega)]
      have : ((k : Int) + 2 + Lib.index (s.drop (a + k + 2)) [13, 10, 13, 10]).toNat = k + 2 + (Lib.index (s.drop (a + k + 2)) [13, 10, 13, 10]).toNat := by omega
      rw [this, show a + (k + 2 + (Lib.index (s.drop (a + k + 2)) [13, 10, 13, 10]).toNat) + 4 = a + k + 2 + (Lib.index (s.drop (a + k + 2)) [13, 10, 13, 10]).toNat + 4 by omega]
/-- a field's name, as the document tells it: what stands ahead of the first : -/
theorem cut_index (l : List UInt8) (c : UInt8) : (Lib.cut l [c]).2.2 = decide (0 ≤ Lib.indexByte l c) ∧ (0 ≤ Lib.indexByte l c → (Lib.cut l [c]).1 = l.take (Lib.indexByte l c).toNat ∧ (Lib.cut l [c]).2.1 = l.drop ((Lib.indexByte l c).toNat + 1)) := by
  unfold Lib.cut
  rw [Lib.index_one]
  by_cases h : 0 ≤ Lib.indexByte l c
  · rw [if_pos h]
    exact ⟨by simp [h], fun _ => ⟨rfl, rfl⟩⟩
  · rw [if_neg h]
    exact ⟨by simp [h], fun h2 => absurd h2 h⟩
theorem indexByte_lt (l : List UInt8) (c : UInt8) : Lib.indexByte l c < l.length ∨ Lib.indexByte l c = -1 := by
  induction l with
  | nil => right; rfl
  | cons b l ih =>
    unfold Lib.indexByte
    split
    · left; simp
    · split
      · right; rfl
      · rename_i h
        have h2 : Lib.indexByte l c ≠ -1 := by simpa using h
        left
        rcases ih with ih | ih
        · simp only [List.length_cons]; omega
        · exact absurd ih h2
theorem before_first (l : List UInt8) (c : UInt8) : ∀ x ∈ l.take (Lib.indexByte l c).toNat, x ≠ c := by
  induction l with
  | nil => intro x hx; simp at hx
  | cons b l ih =>
    intro x hx
    unfold Lib.indexByte at hx
    by_cases h : (b == c) = true
    · rw [if_pos h] at hx; simp at hx
    · rw [if_neg h] at hx
      have hg := Lib.indexByte_ge l c
      by_cases h2 : (Lib.indexByte l c == -1) = true
      · rw [if_pos h2] at hx; simp at hx
      · rw [if_neg h2] at hx
        have h3 : Lib.indexByte l c ≠ -1 := by simpa using h2
        have : (Lib.indexByte l c + 1).toNat = (Lib.indexByte l c).toNat + 1 := by omega
        rw [this, List.take_succ_cons, List.mem_cons] at hx
        rcases hx with rfl | hx
        · simpa using h
        · exact ih x hx
/-- a name is right where each of its bytes is one from 33 to 126, and it has from 1 to 60 -/
theorem name_ref {l : List UInt8} {k : Nat} (hk : Lib.indexByte l 58 = k) (hl : k ≤ l.length) :
    nameL (l.take k) = ((l.take k).all (fun c => decide (33 ≤ c.toNat) && decide (c.toNat ≤ 126)) && (decide (1 ≤ k) && decide (k ≤ 60))) := by
  unfold nameL
  have h1 : (l.take k).all nameC = (l.take k).all (fun c => decide (33 ≤ c.toNat) && decide (c.toNat ≤ 126)) := by
    have hb := before_first l 58
    rw [hk, Int.toNat_natCast] at hb
    generalize l.take k = m at hb
    induction m with
    | nil => rfl
    | cons a m ih =>
      rw [List.all_cons, List.all_cons, ih (fun x hx => hb x (by simp [hx]))]
      have : (a != 58) = true := by simpa using hb a (by simp)
      unfold nameC
      rw [this, Bool.and_true]
  have h2 : (l.take k).length = k := by rw [List.length_take]; omega
  have h3 : (!(l.take k).isEmpty) = decide (1 ≤ k) := by
    cases hm : l.take k with
    | nil => rw [hm] at h2; simp at h2; subst h2; rfl
    | cons a m => rw [hm] at h2; simp at h2; simp; omega
  rw [h1, h2, h3]
end Go.Proofs.YtcahhnjponeeeaaGreatDoor
namespace Go.Proofs.YtcahhnjponeeeaaGreatDoor
mutual
def okK : KeyP → Bool
  | .mk code _ _ _ _ keys => decide (1 ≤ code ∧ code ≤ 15) && okAll keys
def okAll : List KeyP → Bool
  | [] => true
  | k :: l => okK k && okAll l
end
theorem okK_mk (code : Int) (name text : List UInt8) (n : Int) (set : List Rg) (keys : List KeyP) : okK (.mk code name text n set keys) = (decide (1 ≤ code ∧ code ≤ 15) && okAll keys) := by rw [okK]
theorem okAll_nil : okAll [] = true := by rw [okAll]
theorem okAll_cons (k : KeyP) (l : List KeyP) : okAll (k :: l) = (okK k && okAll l) := by rw [okAll]
theorem okAll_iff : ∀ l : List KeyP, okAll l = true ↔ ∀ k ∈ l, okK k = true
  | [] => by rw [okAll_nil]; simp
  | k :: l => by rw [okAll_cons, Bool.and_eq_true, okAll_iff l]; simp
theorem okK_leaf {code : Int} {name text : List UInt8} {n : Int} {set : List Rg} (h : 1 ≤ code ∧ code ≤ 15) : okK (.mk code name text n set []) = true := by rw [okK_mk, okAll_nil, decide_eq_true h]; rfl
theorem okK_not {k : KeyP} (h : okK k = true) : okK (notK k) = true := by
  unfold notK
  rw [okK_mk, okAll_cons, okAll_nil, h]; decide
theorem okK_two {a b : KeyP} (h : okK a = true) (h' : okK b = true) : okK (.mk 14 [] [] 0 [] [a, b]) = true := by
  rw [okK_mk, okAll_cons, okAll_cons, okAll_nil, h, h']; decide
theorem okK_all {l : List KeyP} (h : okAll l = true) : okK (allK l) = true := by
  unfold allK
  split
  · rw [okAll_cons, okAll_nil, Bool.and_true] at h; exact h
  · rw [okK_mk, h]; decide
def OkKF (f : List Wd → Nat → KeyE) : Prop := ∀ l n k r a, f l n = .ok (k, r, a) → okK k = true
theorem head_ok {nm : List UInt8} {l : List Wd} {n : Nat} {k : KeyP} {r : List Wd} {a : Nat} (h : headK nm l n = .ok (k, r, a)) : okK k = true := by
  unfold headK at h
  cases hw : wordK l with
  | error e => rw [hw] at h; cases h
  | ok x => rw [hw] at h; cases h; exact okK_leaf (by decide)
theorem text_ok {c : Int} (hc : 1 ≤ c ∧ c ≤ 15) {l : List Wd} {n : Nat} {k : KeyP} {r : List Wd} {a : Nat} (h : textK c l n = .ok (k, r, a)) : okK k = true := by
  unfold textK at h
  cases hw : wordK l with
  | error e => rw [hw] at h; cases h
  | ok x => rw [hw] at h; cases h; exact okK_leaf hc
theorem more_ok {f : List Wd → Nat → KeyE} (hf : OkKF f) (w s : List UInt8) : OkKF (moreK f w s) := by
  intro l n k r a h
  unfold moreK at h
  by_cases q0 : s = [70, 82, 79, 77] ∨ s = [84, 79] ∨ s = [83, 85, 66, 74, 69, 67, 84] ∨ s = [67, 67]
  · rw [if_pos q0] at h
    exact head_ok h
  rw [if_neg q0] at h
  by_cases q1 : s = [65, 76, 76]
  · rw [if_pos q1] at h
    cases h; exact okK_leaf (by decide)
  rw [if_neg q1] at h
  by_cases q2 : s = [75, 69, 89, 87, 79, 82, 68]
  · rw [if_pos q2] at h
    cases hw : flagK l with
    | error e => rw [hw] at h; cases h
    | ok x => rw [hw] at h; cases h; exact okK_leaf (by decide)
  rw [if_neg q2] at h
  by_cases q3 : s = [85, 78, 75, 69, 89, 87, 79, 82, 68]
  · rw [if_pos q3] at h
    cases hw : flagK l with
    | error e => rw [hw] at h; cases h
    | ok x => rw [hw] at h; cases h; exact okK_not (okK_leaf (by decide))
  rw [if_neg q3] at h
  by_cases q4 : s = [72, 69, 65, 68, 69, 82]
  · rw [if_pos q4] at h
    cases hw : wordK l with
    | error e => rw [hw] at h; cases h
    | ok x => rw [hw] at h; exact head_ok h
  rw [if_neg q4] at h
  by_cases q5 : s = [66, 79, 68, 89]
  · rw [if_pos q5] at h
    exact text_ok (by decide) h
  rw [if_neg q5] at h
  by_cases q6 : s = [84, 69, 88, 84]
  · rw [if_pos q6] at h
    exact text_ok (by decide) h
  rw [if_neg q6] at h
  by_cases q7 : s = [85, 73, 68]
  · rw [if_pos q7] at h
    cases hw : wordK l with
    | error e => rw [hw] at h; cases h
    | ok x =>
      rw [hw] at h
      simp only at h
      split at h
      · cases h
      · cases h; exact okK_leaf (by decide)
  rw [if_neg q7] at h
  by_cases q8 : s = [78, 79, 84]
  · rw [if_pos q8] at h
    cases hw : f l n with
    | error e => rw [hw] at h; cases h
    | ok x =>
      obtain ⟨k1, r1, a1⟩ := x
      have := hf _ _ _ _ _ hw
      rw [hw] at h; cases h; exact okK_not this
  rw [if_neg q8] at h
  by_cases q9 : s = [79, 82]
  · rw [if_pos q9] at h
    cases hw : f l n with
    | error e => rw [hw] at h; cases h
    | ok x =>
      obtain ⟨k1, r1, a1⟩ := x
      have h1 := hf _ _ _ _ _ hw
      rw [hw] at h
      simp only at h
      cases hw2 : f r1 a1 with
      | error e => rw [hw2] at h; cases h
      | ok y =>
        obtain ⟨k2, r2, a2⟩ := y
        have h2 := hf _ _ _ _ _ hw2
        rw [hw2] at h; cases h; exact okK_two h1 h2
  rw [if_neg q9] at h
  cases hp : parseS w with
  | error e => rw [hp] at h; cases h
  | ok y => rw [hp] at h; cases h; exact okK_leaf (by decide)
theorem numsK_le (s : List UInt8) : numsK s ≤ 15 := by
  unfold numsK
  repeat' split
  all_goals decide
theorem plain_ok {f : List Wd → Nat → KeyE} (hf : OkKF f) (w : List UInt8) : OkKF (plainK f w) := by
  intro l n k r a h
  unfold plainK at h
  cases hs : sysK (greatL w) with
  | some x =>
    obtain ⟨t, un⟩ := x
    rw [hs] at h
    cases h
    cases un
    · exact okK_leaf (by decide)
    · exact okK_not (okK_leaf (by decide))
  | none =>
    rw [hs] at h
    simp only at h
    split at h
    · rename_i h0
      cases hw : numberK l with
      | error e => rw [hw] at h; cases h
      | ok x =>
        rw [hw] at h; cases h
        have := numsK_le (greatL w)
        exact okK_leaf (by omega)
    · exact more_ok hf _ _ _ _ _ _ _ h
theorem loop_ok {f : List Wd → Nat → KeyE} (hf : OkKF f) : ∀ fu l n acc ks a, okAll acc = true → loopK f fu l n acc = .ok (ks, a) → okAll ks = true
  | 0, l, n, acc, ks, a, _, h => by rw [loopK] at h; cases h
  | fu + 1, l, n, acc, ks, a, ha, h => by
    rw [loopK] at h
    cases hw : f l n with
    | error e => rw [hw] at h; cases h
    | ok x =>
      obtain ⟨k1, r1, a1⟩ := x
      have h1 := hf _ _ _ _ _ hw
      have h2 : okAll (acc ++ [k1]) = true := by
        rw [okAll_iff] at ha ⊢
        intro k hk
        rcases List.mem_append.1 hk with h' | h'
        · exact ha k h'
        · rw [List.mem_singleton] at h'; rw [h']; exact h1
      rw [hw] at h
      by_cases hr : r1 = []
      · simp only [hr, if_true] at h
        cases h; exact h2
      · simp only [if_neg hr] at h
        exact loop_ok hf fu r1 a1 _ ks a h2 h
theorem keys_ok {f : List Wd → Nat → KeyE} (hf : OkKF f) {l : List Wd} {n : Nat} {k : KeyP} {a : Nat} (h : keysK f l n = .ok (k, a)) : okK k = true := by
  unfold keysK at h
  cases hw : loopK f (l.length + 1) l n [] with
  | error e => rw [hw] at h; cases h
  | ok x => rw [hw] at h; cases h; exact okK_all (loop_ok hf _ _ _ _ _ _ okAll_nil hw)
theorem key_ok : ∀ d : Nat, OkKF (keyK d)
  | 0 => fun l n k r a h => by rw [keyK_zero] at h; cases h
  | d + 1 => fun l n k r a h => by
    cases l with
    | nil =>
      rw [keyK_nil] at h
      split at h <;> cases h
    | cons t l =>
      rw [keyK_cons] at h
      split at h
      · cases h
      split at h
      · cases hw : keysK (keyK d) t.list (n + 1) with
        | error e => rw [hw] at h; cases h
        | ok x =>
          have := keys_ok (key_ok d) hw
          rw [hw] at h; cases h
          exact this
      · exact plain_ok (key_ok d) _ _ _ _ _ _ h
theorem parseK_ok {l : List Wd} {k : KeyP} (h : parseK l = .ok k) : okK k = true := by
  unfold parseK at h
  cases hw : keysK (keyK 7) l 0 with
  | error e => rw [hw] at h; cases h
  | ok x => rw [hw] at h; cases h; exact keys_ok (key_ok 7) hw
/-- or and and by counting -/
theorem any_count (x : LetK) : ∀ l : List KeyP, holdsAny x l = decide (0 < l.countP (holdsK x))
  | [] => by rw [holdsAny]; simp
  | k :: l => by
    rw [holdsAny, any_count x l, List.countP_cons]
    cases holdsK x k <;> simp
theorem all_count (x : LetK) : ∀ l : List KeyP, holdsAll x l = decide (l.countP (holdsK x) = l.length)
  | [] => by rw [holdsAll]; simp
  | k :: l => by
    rw [holdsAll, all_count x l, List.countP_cons]
    have := List.countP_le_length (p := holdsK x) (l := l)
    cases holdsK x k
    · simp only [Bool.false_and, List.length_cons]
      symm; apply decide_eq_false; simp; omega
    · simp
end Go.Proofs.YtcahhnjponeeeaaGreatDoor
