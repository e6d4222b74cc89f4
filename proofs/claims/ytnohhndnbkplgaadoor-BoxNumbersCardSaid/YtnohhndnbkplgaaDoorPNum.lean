/- Plain laws of what is noted of letters' texts, by their numbers. No program in sight. -/
import Derived.Test.YtnohhndnbkplgaaDoorPPost
import Derived.Maps.OwnSet
import Derived.Maps.StringElems
namespace Go.Proofs.YtnohhndnbkplgaaDoor
open Go.Maps

/-- what is noted: of each number its text -/
abbrev Nt := Int → Option (List UInt8)
def addN (f : Nt) (y : Let) : Nt := fun u => if u = y.uid then some y.text else f u
def updL (f : Nt) (l : List Let) : Nt := l.foldl addN f
theorem updL_snoc (f : Nt) (l : List Let) (y : Let) : updL f (l ++ [y]) = addN (updL f l) y := by unfold updL; rw [List.foldl_append]; rfl
theorem updL_out {u : Int} : ∀ {l : List Let} {f : Nt}, (∀ y ∈ l, y.uid ≠ u) → updL f l u = f u
  | [], f, _ => rfl
  | y :: r, f, h => by
    show updL (addN f y) r u = f u
    rw [updL_out (fun z hz => h z (List.mem_cons_of_mem _ hz))]
    show (if u = y.uid then _ else _) = _
    rw [if_neg (fun e => h y (List.mem_cons_self ..) e.symm)]
theorem updL_in : ∀ {l : List Let} {f : Nt}, l.Pairwise (fun x y => x.uid < y.uid) → ∀ y ∈ l, updL f l y.uid = some y.text
  | [], _, _, y, hy => by cases hy
  | x :: r, f, hp, y, hy => by
    obtain ⟨h1, h2⟩ := List.pairwise_cons.1 hp
    show updL (addN f x) r y.uid = _
    rcases List.mem_cons.1 hy with rfl | hy
    · rw [updL_out (fun z hz e => by have := h1 z hz; omega)]
      show (if y.uid = y.uid then _ else _) = _
      rw [if_pos rfl]
    · exact updL_in h2 y hy
theorem updL_some {u : Int} {t : List UInt8} : ∀ {l : List Let} {f : Nt}, updL f l u = some t → (∃ y ∈ l, y.uid = u) ∨ f u = some t
  | [], f, h => Or.inr h
  | y :: r, f, h => by
    rcases updL_some (l := r) (f := addN f y) h with ⟨z, hz, e⟩ | h'
    · exact Or.inl ⟨z, List.mem_cons_of_mem _ hz, e⟩
    · by_cases hu : u = y.uid
      · exact Or.inl ⟨y, List.mem_cons_self .., hu.symm⟩
      · right
        have : addN f y u = f u := by show (if u = y.uid then _ else _) = _; rw [if_neg hu]
        rw [this] at h'
        exact h'
/-- each letter is noted as it is, and what is noted has a number from before the next -/
def NoteI (b : BoxP) (f : Nt) : Prop := (∀ y ∈ b.ls, f y.uid = some y.text) ∧ ∀ u t, f u = some t → u < b.next
theorem note_nil (v n : Int) : NoteI ⟨v, n, []⟩ (fun _ => none) := ⟨fun y h => (by cases h), fun u t h => (by cases h)⟩
theorem note_step {b b' : BoxP} {f : Nt} {P : Prop} (h : NoteI b f) (hs : Stays b b' P) (hr : rightB b' = true) : NoteI b' (updL f b'.ls) := by
  have hr2 := hr
  unfold rightB at hr2
  simp only [Bool.and_eq_true] at hr2
  obtain ⟨hp, _⟩ := rightL_lt hr2.1.1.1
  refine ⟨fun y hy => updL_in hp y hy, fun u t hu => ?_⟩
  rcases updL_some hu with ⟨y, hy, e⟩ | h'
  · obtain ⟨k, hk⟩ := List.getElem?_of_mem hy
    have := (letOk_iff.1 (rightL_at hr2.1.1.1 hk)).2.2.1
    omega
  · have := h.2 u t h'
    rcases hs.next with e | e <;> omega
/-- at a letter: it is noted with its text, or it is not, and its number is no elder one -/
theorem note_at {b b' : BoxP} {f : Nt} {P : Prop} (h : NoteI b f) (hs : Stays b b' P) (hr : rightB b' = true) {k : Nat} {y : Let} (hy : b'.ls[k]? = some y) : updL f (b'.ls.take k) y.uid = some y.text ∨ updL f (b'.ls.take k) y.uid = none ∧ y.uid = b.next := by
  have hr2 := hr
  unfold rightB at hr2
  simp only [Bool.and_eq_true] at hr2
  obtain ⟨hp, _⟩ := rightL_lt hr2.1.1.1
  obtain ⟨hk, ek⟩ := List.getElem?_eq_some_iff.1 hy
  have hout : updL f (b'.ls.take k) y.uid = f y.uid := updL_out (fun z hz e => by
    obtain ⟨j, hj⟩ := List.getElem?_of_mem hz
    rw [List.getElem?_take] at hj
    split at hj
    · rename_i hjk
      obtain ⟨hj2, ej⟩ := List.getElem?_eq_some_iff.1 hj
      have := List.pairwise_iff_getElem.1 hp j k hj2 hk hjk
      rw [ej, ek] at this
      omega
    · cases hj)
  rw [hout]
  rcases hs.ls y (List.mem_of_getElem? hy) with ⟨z, hz, e1, e2⟩ | e
  · left
    rw [← e1, ← e2]
    exact h.1 z hz
  · right
    refine ⟨?_, e⟩
    cases hf : f y.uid with
    | none => rfl
    | some t =>
      have := h.2 _ _ hf
      omega

/-- a map reads as what is noted -/
def DS (D : DataW Unit) (f : Nt) : Prop := ∀ x, D.atKey (.int .i64 x) (.lit (.string [])) = .lit (.string ((f x).getD [])) ∧ has D (.int .i64 x) = (f x).isSome
theorem DS.empty : DS (.map []) (fun _ => none) := fun _ => ⟨rfl, rfl⟩
theorem key_int (x : Int) : WideAt.IsKeyLit (.int .i64 x) := trivial
theorem int_ne {x s : Int} (h : x ≠ s) : Lit.int .i64 x ≠ Lit.int .i64 s := fun e => h (by injection e)
theorem DS.put {D : DataW Unit} {f : Nt} (h : DS D f) (hD : IsMap D) (y : Let) : DS (D.put (.int .i64 y.uid) (.lit (.string y.text))) (addN f y) := by
  intro x
  have e : addN f y x = if x = y.uid then some y.text else f x := rfl
  rw [e]
  by_cases hx : x = y.uid
  · rw [if_pos hx, hx, atKey_put_same hD (key_int _), has_put_same hD (key_int _)]
    exact ⟨rfl, rfl⟩
  · rw [if_neg hx, atKey_put_other (int_ne hx), has_put_other (int_ne hx)]
    exact h x
section
variable {P : Program} (w : World) {ops : Array Oper} {rest : List Oper} {o : Oper} {a : Act} {Q : Exit → Act → World → Prop}
/-- v, ok := m[k], at texts -/
theorem wpList_look_str (hg : o.guard = none) (m x : Operand) (t : TypeId) (hop : o.op = Op.lookup t m x true)
    (k e : TypeId) (K : Keyed P k) (ht : P.underlying t = some (.map k e)) (he : P.underlying e = some .string) (hz : (zeroValue e).run P w = .ok (.string ⟨#[]⟩) w) (b n : Nat) (D : DataW Unit)
    (hm : a.eval m = .map (some b)) (hown : w.ownsMap P k (plainElem P e) b n D) (key : Value) (kl : Lit) (hx : a.eval x = key) (hkey : keyOf P k key = some kl)
    (s : List UInt8) (ok : Bool) (hat : D.atKey kl (.lit (.string [])) = .lit (.string s)) (hok : has D kl = ok)
    (hK : wpList P ops Q rest (a.put o.dst (.tuple #[.string ⟨s.toArray⟩, .bool ok])) w) :
    wpList P ops Q (o :: rest) a w :=
  wpList_lookup_own_ok w hg m x t hop k e K ht (plainElem P e) hz (.lit (.string [])) [] (by have := plainElem_string (H := Unit) he (s := ⟨#[]⟩) (by simp [ByteArray.size]); simpa using this) b n D hm hown key kl hx hkey (fun v ps hv => by
    obtain ⟨r, rfl, hr, _⟩ := plainElem_string_inv he hv
    have h1 := congrArg Prod.fst hr
    simp only at h1
    rw [hat] at h1
    injection h1 with h1
    injection h1 with h1
    have : r = ⟨s.toArray⟩ := by
      apply ByteArray.ext
      rw [h1]
    rw [this, hok]
    exact hK)
end
end Go.Proofs.YtnohhndnbkplgaaDoor
