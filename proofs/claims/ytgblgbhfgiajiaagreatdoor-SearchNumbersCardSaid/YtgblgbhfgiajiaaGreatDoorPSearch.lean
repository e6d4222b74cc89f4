/- Plain laws of what is looked for: words, keys, what a reading of words gives, whether a letter is what a key asks. No program in sight; no condition beyond those each names. -/
import Derived.Test.YtgblgbhfgiajiaaGreatDoorPFlags
import Derived.Test.YtgblgbhfgiajiaaGreatDoorPSeq
namespace Go.Proofs.YtgblgbhfgiajiaaGreatDoor

/-- a word: its kind (3: a list), its text, its own words -/
inductive Wd where
  | mk (kind : Int) (text : List UInt8) (list : List Wd)
def Wd.kind : Wd → Int
  | .mk k _ _ => k
def Wd.text : Wd → List UInt8
  | .mk _ t _ => t
def Wd.list : Wd → List Wd
  | .mk _ _ l => l
/-- what is looked for -/
inductive KeyP where
  | mk (code : Int) (name text : List UInt8) (n : Int) (set : List Rg) (keys : List KeyP)

/-- what is read: an error, or a value and what is left -/
abbrev KeyE := Except Nat (KeyP × List Wd × Nat)
def wordK : List Wd → Except Nat (List UInt8 × List Wd)
  | [] => .error 3
  | t :: l => if t.kind = 3 then .error 3 else .ok (t.text, l)
def numK (s : List UInt8) : Option Int := match Lib.atoiAll s with
  | .ok v => if 0 ≤ v ∧ v ≤ 2147483647 ∧ Lib.itoa v = s then some v else none
  | _ => none
def numberK (l : List Wd) : Except Nat (Int × List Wd) := match wordK l with
  | .error e => .error e
  | .ok (s, l) => match numK s with
    | some v => .ok (v, l)
    | none => .error 3
def flagK (l : List Wd) : Except Nat (List UInt8 × List Wd) := match wordK l with
  | .error e => .error e
  | .ok (s, l) => match nameF s with
    | .inr t => .ok (t, l)
    | .inl e => .error e
/-- the five flags that are words of their own, as they are written -/
def wordsL : List (List UInt8) := [[83, 69, 69, 78], [65, 78, 83, 87, 69, 82, 69, 68], [70, 76, 65, 71, 71, 69, 68], [68, 69, 76, 69, 84, 69, 68], [68, 82, 65, 70, 84]]
def namesL : List (List UInt8) := [[92, 83, 101, 101, 110], [92, 65, 110, 115, 119, 101, 114, 101, 100], [92, 70, 108, 97, 103, 103, 101, 100], [92, 68, 101, 108, 101, 116, 101, 100], [92, 68, 114, 97, 102, 116]]
/-- what stands behind UN, and whether it stood there -/
def unK (s : List UInt8) : List UInt8 × Bool := if Lib.hasPrefix s [85, 78] then (s.drop 2, true) else (s, false)
def sysK (s : List UInt8) : Option (List UInt8 × Bool) :=
  if (unK s).1 ∈ wordsL then some ((namesL.getD (wordsL.idxOf (unK s).1) []), (unK s).2) else none
def numsK (s : List UInt8) : Int :=
  if s = [76, 65, 82, 71, 69, 82] then 6 else if s = [83, 77, 65, 76, 76, 69, 82] then 7 else if s = [66, 69, 70, 79, 82, 69] then 8
  else if s = [79, 78] then 9 else if s = [83, 73, 78, 67, 69] then 10 else 0
def notK (k : KeyP) : KeyP := .mk 13 [] [] 0 [] [k]
/-- keys, up to the words' end -/
def loopK (f : List Wd → Nat → KeyE) : Nat → List Wd → Nat → List KeyP → Except Nat (List KeyP × Nat)
  | 0, _, _, _ => .error 99
  | fu + 1, l, n, acc => match f l n with
    | .error e => .error e
    | .ok (k, l', n') => if l' = [] then .ok (acc ++ [k], n') else loopK f fu l' n' (acc ++ [k])
def allK : List KeyP → KeyP
  | [k] => k
  | l => .mk 15 [] [] 0 [] l
def keysK (f : List Wd → Nat → KeyE) (l : List Wd) (n : Nat) : Except Nat (KeyP × Nat) := match loopK f (l.length + 1) l n [] with
  | .error e => .error e
  | .ok (ks, n') => .ok (allK ks, n')
/-- the words behind a word that asks for some -/
def headK (nm : List UInt8) (l : List Wd) (n : Nat) : KeyE := match wordK l with
  | .error e => .error e
  | .ok (t, l') => .ok (.mk 3 nm t 0 [] [], l', n)
def textK (code : Int) (l : List Wd) (n : Nat) : KeyE := match wordK l with
  | .error e => .error e
  | .ok (t, l') => .ok (.mk code [] t 0 [] [], l', n)
/-- what a word that is no flag and asks for no number begins -/
def moreK (f : List Wd → Nat → KeyE) (w s : List UInt8) (l : List Wd) (n : Nat) : KeyE :=
  if s = [70, 82, 79, 77] ∨ s = [84, 79] ∨ s = [83, 85, 66, 74, 69, 67, 84] ∨ s = [67, 67] then headK (smallL s) l n
  else if s = [65, 76, 76] then .ok (.mk 1 [] [] 0 [] [], l, n)
  else if s = [75, 69, 89, 87, 79, 82, 68] then match flagK l with
    | .error e => .error e
    | .ok (t, l') => .ok (.mk 2 t [] 0 [] [], l', n)
  else if s = [85, 78, 75, 69, 89, 87, 79, 82, 68] then match flagK l with
    | .error e => .error e
    | .ok (t, l') => .ok (notK (.mk 2 t [] 0 [] []), l', n)
  else if s = [72, 69, 65, 68, 69, 82] then match wordK l with
    | .error e => .error e
    | .ok (t, l') => headK (smallL t) l' n
  else if s = [66, 79, 68, 89] then textK 4 l n
  else if s = [84, 69, 88, 84] then textK 5 l n
  else if s = [85, 73, 68] then match wordK l with
    | .error e => .error e
    | .ok (t, l') => match parseS t with
      | .error e => .error e
      | .ok r => .ok (.mk 11 [] [] 0 r [], l', n)
  else if s = [78, 79, 84] then match f l n with
    | .error e => .error e
    | .ok (k, l', n') => .ok (notK k, l', n')
  else if s = [79, 82] then match f l n with
    | .error e => .error e
    | .ok (a, l1, n1) => match f l1 n1 with
      | .error e => .error e
      | .ok (b, l2, n2) => .ok (.mk 14 [] [] 0 [] [a, b], l2, n2)
  else match parseS w with
    | .error e => .error e
    | .ok r => .ok (.mk 12 [] [] 0 r [], l, n)
/-- what a word begins -/
def plainK (f : List Wd → Nat → KeyE) (w : List UInt8) (l : List Wd) (n : Nat) : KeyE := match sysK (greatL w) with
  | some (t, un) => .ok (if un then notK (.mk 2 t [] 0 [] []) else .mk 2 t [] 0 [] [], l, n)
  | none => if 0 < numsK (greatL w) then match numberK l with
      | .error e => .error e
      | .ok (v, l') => .ok (.mk (numsK (greatL w)) [] [] v [] [], l', n)
    else moreK f w (greatL w) l n
/-- a key, with so much depth left -/
def keyK : Nat → List Wd → Nat → KeyE
  | 0, _, _ => .error 4
  | d + 1, l, n => if 60 < n + 1 then .error 4 else match l with
    | [] => .error 3
    | t :: l' => if t.kind = 3 then match keysK (keyK d) t.list (n + 1) with
        | .error e => .error e
        | .ok (k, n') => .ok (k, l', n')
      else plainK (keyK d) t.text l' (n + 1)
theorem keyK_zero (l : List Wd) (n : Nat) : keyK 0 l n = .error 4 := rfl
theorem keyK_nil (d n : Nat) : keyK (d + 1) [] n = if 60 < n + 1 then .error 4 else .error 3 := rfl
theorem keyK_cons (d : Nat) (t : Wd) (l : List Wd) (n : Nat) : keyK (d + 1) (t :: l) n = if 60 < n + 1 then .error 4 else if t.kind = 3 then (match keysK (keyK d) t.list (n + 1) with | .error e => .error e | .ok (k, n') => .ok (k, l, n')) else plainK (keyK d) t.text l (n + 1) := rfl
def parseK (l : List Wd) : Except Nat KeyP := match keysK (keyK 7) l 0 with
  | .error e => .error e
  | .ok (k, _) => .ok k

/-- whether some letters stand in a text, whatever letters are great -/
def hasK (s t : List UInt8) : Bool := Lib.contains (smallL s) (smallL t)
/-- a letter, where it stands, and in what -/
structure LetK where
  uid : Int
  flags : List (List UInt8)
  day : Int
  text : List UInt8
  which : Int
  many : Int
  greatest : Int
def headIs (text name t : List UInt8) : Bool := match fieldsL text with
  | .inl _ => false
  | .inr l => l.any fun f => smallL f.1 == name && hasK f.2 t
mutual
def holdsK (x : LetK) : KeyP → Bool
  | .mk code name text n set keys =>
    if code = 1 then true else if code = 2 then decide (name ∈ x.flags) else if code = 3 then headIs x.text name text
    else if code = 4 then hasK (splitHd x.text).2 text else if code = 5 then hasK x.text text
    else if code = 6 then decide (n < (x.text.length : Int)) else if code = 7 then decide ((x.text.length : Int) < n)
    else if code = 8 then decide (x.day < n) else if code = 9 then decide (x.day = n) else if code = 10 then decide (n ≤ x.day)
    else if code = 11 then hasS set x.uid x.greatest else if code = 12 then hasS set x.which x.many
    else if code = 13 then !holdsOne x keys else if code = 14 then holdsAny x keys else holdsAll x keys
def holdsOne (x : LetK) : List KeyP → Bool
  | [] => false
  | k :: _ => holdsK x k
def holdsAny (x : LetK) : List KeyP → Bool
  | [] => false
  | k :: l => holdsK x k || holdsAny x l
def holdsAll (x : LetK) : List KeyP → Bool
  | [] => true
  | k :: l => holdsK x k && holdsAll x l
end
end Go.Proofs.YtgblgbhfgiajiaaGreatDoor
