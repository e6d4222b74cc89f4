/- Plain laws of posts: what one does to a box; that a box that may be stays one, numbers rise, letters stay what they are. No program in sight. -/
import Derived.Test.YteabnpahhkicaaaDoorPView
namespace Go.Proofs.YteabnpahhkicaaaDoor

/-- one of a box -/
structure Pst where
  what : Int
  uid : Int
  n : Int
  flags : List (List UInt8)
  text : List UInt8
/-- which letters post's closure holds of -/
def holF (n uid : Int) : Bool := decide (n.tmod 3 = 0) || decide (uid % 2 = 0)
def errO : Nat ⊕ Int → Option Nat
  | .inl n => some n
  | .inr _ => none
/-- what one does: what is wrong, and the box behind it (d: the day, k: what is done with flags) -/
def postB (b : BoxP) (x : Pst) (d k : Int) : Option Nat × BoxP :=
  if x.what = 0 then (errO (appB b x.flags d x.text).1, (appB b x.flags d x.text).2)
  else if x.what = 1 then flagB b x.uid k x.flags
  else if x.what = 2 then (none, (expB b (holF x.n)).2)
  else (none, b)
theorem right_post {b : BoxP} (h : rightB b = true) (x : Pst) (d k : Int) : rightB (postB b x d k).2 = true := by
  unfold postB
  split
  · exact right_app h _ _ _
  · split
    · exact right_flag h _ _ _
    · split
      · exact right_exp h _
      · exact h
/-- what a post leaves: refused, nothing; else numbers stay or rise by one, a letter was there with its text, or has the old next number -/
structure Stays (b b' : BoxP) (new : Prop) : Prop where
  next : b'.next = b.next ∨ b'.next = b.next + 1
  made : new → b'.next = b.next + 1
  ls : ∀ y ∈ b'.ls, (∃ z ∈ b.ls, z.uid = y.uid ∧ z.text = y.text) ∨ y.uid = b.next
theorem setFl_mem {g : List (List UInt8)} : ∀ {l : List Let} {k : Nat} {y : Let}, y ∈ setFl l k g → ∃ z ∈ l, z.uid = y.uid ∧ z.text = y.text
  | [], k, y, h => by cases k <;> cases h
  | z :: r, 0, y, h => by
    rcases List.mem_cons.1 (show y ∈ { z with flags := g } :: r from h) with rfl | h'
    · exact ⟨z, List.mem_cons_self .., rfl, rfl⟩
    · exact ⟨y, List.mem_cons_of_mem _ h', rfl, rfl⟩
  | z :: r, k + 1, y, h => by
    rcases List.mem_cons.1 (show y ∈ z :: setFl r k g from h) with rfl | h'
    · exact ⟨y, List.mem_cons_self .., rfl, rfl⟩
    · obtain ⟨q, hq, e⟩ := setFl_mem h'
      exact ⟨q, List.mem_cons_of_mem _ hq, e⟩
theorem stays_refl (b : BoxP) : Stays b b False := ⟨Or.inl rfl, fun h => h.elim, fun y hy => Or.inl ⟨y, hy, rfl, rfl⟩⟩
theorem app_stays (b : BoxP) (l : List (List UInt8)) (d : Int) (t : List UInt8) : (∃ n, (appB b l d t).1 = .inl n ∧ (appB b l d t).2 = b) ∨ (∃ n, (appB b l d t).1 = .inr n) ∧ Stays b (appB b l d t).2 True := by
  unfold appB
  split
  · exact Or.inl ⟨_, rfl, rfl⟩
  · split
    · exact Or.inl ⟨_, rfl, rfl⟩
    · split
      · exact Or.inl ⟨_, rfl, rfl⟩
      · split
        · exact Or.inl ⟨_, rfl, rfl⟩
        · refine Or.inr ⟨⟨_, rfl⟩, Or.inr rfl, fun _ => rfl, fun y hy => ?_⟩
          rcases List.mem_append.1 (show y ∈ b.ls ++ [_] from hy) with h | h
          · exact Or.inl ⟨y, h, rfl, rfl⟩
          · obtain rfl := List.mem_singleton.1 h
            exact Or.inr rfl
theorem flag_stays (b : BoxP) (u k : Int) (l : List (List UInt8)) : ((flagB b u k l).1 = none ∨ (flagB b u k l).2 = b) ∧ Stays b (flagB b u k l).2 False ∧ (flagB b u k l).2.ls.length = b.ls.length := by
  unfold flagB
  split
  · exact ⟨Or.inr rfl, stays_refl b, rfl⟩
  · split
    · exact ⟨Or.inr rfl, stays_refl b, rfl⟩
    · split
      · exact ⟨Or.inr rfl, stays_refl b, rfl⟩
      · split
        · exact ⟨Or.inr rfl, stays_refl b, rfl⟩
        · exact ⟨Or.inl rfl, ⟨Or.inl rfl, fun h => h.elim, fun y hy => Or.inl (setFl_mem hy)⟩, setFl_len _ _ _⟩
theorem post_stays (b : BoxP) (x : Pst) (d k : Int) : ((postB b x d k).1 = none ∨ (postB b x d k).2 = b) ∧ Stays b (postB b x d k).2 ((postB b x d k).1 = none ∧ x.what = 0) := by
  unfold postB
  split
  · rename_i h0
    rcases app_stays b x.flags d x.text with ⟨n, e1, e2⟩ | ⟨⟨n, e1⟩, e2⟩
    · rw [e1, e2]
      exact ⟨Or.inr rfl, ⟨Or.inl rfl, fun h => by simp [errO] at h, fun y hy => Or.inl ⟨y, hy, rfl, rfl⟩⟩⟩
    · rw [e1]
      exact ⟨Or.inl rfl, ⟨e2.next, fun _ => e2.made trivial, e2.ls⟩⟩
  · rename_i h0
    split
    · obtain ⟨e1, e2, _⟩ := flag_stays b x.uid k x.flags
      exact ⟨e1, ⟨e2.next, fun h => absurd h.2 h0, e2.ls⟩⟩
    · split
      · exact ⟨Or.inl rfl, ⟨Or.inl rfl, fun h => absurd h.2 h0, fun y hy => Or.inl ⟨y, (List.mem_filter.1 hy).1, rfl, rfl⟩⟩⟩
      · exact ⟨Or.inl rfl, ⟨Or.inl rfl, fun h => absurd h.2 h0, fun y hy => Or.inl ⟨y, hy, rfl, rfl⟩⟩⟩
end Go.Proofs.YteabnpahhkicaaaDoor
