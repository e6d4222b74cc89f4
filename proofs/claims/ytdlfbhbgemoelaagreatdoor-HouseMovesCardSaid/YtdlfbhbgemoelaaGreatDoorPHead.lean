/- Plain laws for heads: letters great and small, names, what a head's lines say. No program in sight; no condition beyond those each names. -/
import Derived.Lib.SlTrimSet
import Derived.Lib.Split
import Derived.Lib.IndexAny
import Derived.Lib.IndexMore
import Derived.Lib.Hide
namespace Go.Proofs.YtdlfbhbgemoelaaGreatDoor

def smallC (c : UInt8) : UInt8 := if 65 ≤ c.toNat ∧ c.toNat ≤ 90 then c + 32 else c
def greatC (c : UInt8) : UInt8 := if 97 ≤ c.toNat ∧ c.toNat ≤ 122 then c - 32 else c
def smallL (l : List UInt8) : List UInt8 := l.map smallC
def greatL (l : List UInt8) : List UInt8 := l.map greatC
theorem u8_all {p : UInt8 → Prop} (h : ∀ n : Fin 256, p (UInt8.ofNat n.val)) (c : UInt8) : p c := by
  have := h ⟨c.toNat, c.toNat_lt⟩
  simpa using this
theorem smallC_great (c : UInt8) : smallC (greatC c) = smallC c := u8_all (p := fun c => smallC (greatC c) = smallC c) (by decide +kernel) c
theorem greatC_small (c : UInt8) : greatC (smallC c) = greatC c := u8_all (p := fun c => greatC (smallC c) = greatC c) (by decide +kernel) c
theorem smallC_small (c : UInt8) : smallC (smallC c) = smallC c := u8_all (p := fun c => smallC (smallC c) = smallC c) (by decide +kernel) c
theorem small_great (l : List UInt8) : smallL (greatL l) = smallL l := by simp [smallL, greatL, smallC_great]
theorem great_small (l : List UInt8) : greatL (smallL l) = greatL l := by simp [smallL, greatL, greatC_small]
theorem small_small (l : List UInt8) : smallL (smallL l) = smallL l := by simp [smallL, smallC_small]

abbrev Fld := List UInt8 × List UInt8
def nameC (c : UInt8) : Bool := decide (33 ≤ c.toNat) && decide (c.toNat ≤ 126) && c != 58
def nameL (l : List UInt8) : Bool := l.all nameC && (!l.isEmpty && decide (l.length ≤ 60))
def badL (l : List UInt8) : Bool := Lib.containsAny l [13, 10, 0]
def blankC (c : UInt8) : Bool := c == 32 || c == 9
def trimB (l : List UInt8) : List UInt8 := Lib.trimS l [32, 9]
def trimW (l : List UInt8) : List UInt8 := Lib.trimS l [32]

/-- a text's head and its body -/
def splitHd (s : List UInt8) : List UInt8 × List UInt8 :=
  if Lib.hasPrefix s [13, 10] then (s.take 2, s.drop 2)
  else if Lib.index s [13, 10, 13, 10] < 0 then (s, [])
  else (s.take ((Lib.index s [13, 10, 13, 10]).toNat + 4), s.drop ((Lib.index s [13, 10, 13, 10]).toNat + 4))

def lastGrow (out : List Fld) (l : List UInt8) : List Fld :=
  match out.getLast? with
  | none => []
  | some f => out.dropLast ++ [(f.1, trimW (f.2 ++ [32] ++ trimB l))]

/-- what the lines of a head say: an error and its line, or the fields -/
def fieldsF : Nat → List (List UInt8) → List Fld → (Nat × Nat) ⊕ List Fld
  | _, [], out => .inr out
  | i, l :: r, out =>
    if l = [] then fieldsF (i + 1) r out
    else if badL l then .inl (3, i)
    else if blankC (l.headD 0) then (if out = [] then .inl (3, i) else fieldsF (i + 1) r (lastGrow out l))
    else if (!(Lib.cut l [58]).2.2 || !nameL (Lib.cut l [58]).1) then .inl (3, i)
    else if out.length = 40 then .inl (4, i)
    else fieldsF (i + 1) r (out ++ [((Lib.cut l [58]).1, trimB (Lib.cut l [58]).2.1)])
def fieldsL (s : List UInt8) : (Nat × Nat) ⊕ List Fld := fieldsF 0 (Lib.split (splitHd s).1 [13, 10]) []

def getF (l : List Fld) (n : List UInt8) : Option (List UInt8) := (l.find? fun f => smallL f.1 == smallL n).map (·.2)
def onlyF (l : List Fld) (ns : List (List UInt8)) : List Fld := l.filter fun f => ns.any fun n => smallL f.1 == smallL n

/-- a parameter's text in what a field says -/
def quotL (v : List UInt8) : List UInt8 := if 2 ≤ v.length ∧ v.headD 0 = 34 ∧ v.getLastD 0 = 34 then (v.drop 1).dropLast else v
def paramF (n : List UInt8) : List (List UInt8) → Option (List UInt8)
  | [] => none
  | p :: r =>
    if !(Lib.cut p [61]).2.2 || smallL (trimB (Lib.cut p [61]).1) != smallL n then paramF n r
    else some (quotL (trimB (Lib.cut p [61]).2.1))
def paramL (v n : List UInt8) : Option (List UInt8) := paramF n ((Lib.split v [59]).drop 1)
end Go.Proofs.YtdlfbhbgemoelaaGreatDoor
