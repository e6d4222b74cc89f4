/- How a command's parts lie in memory; what wire's parser leaves of the variables that it reads. No condition beyond those each names. -/
import Derived.Test.YtbfndlmihijcgaaGreatDoorParseA
import Derived.Lib.RowBridge
namespace Go.Proofs.YtbfndlmihijcgaaGreatDoor
open Go.RowKit Go.Shelf Go.Sort

/-- a part's three cells -/
def cells3 (t : ArgP) (v : Value) : List Value := [.int .i64 (t.kind : Int), .string ⟨t.text.toArray⟩, v]
/-- a slice value that reads as a list of parts, in blocks that are such as ok says -/
inductive ReadsA (W : World) (ok : Nat → Prop) : Value → List ArgP → Prop
  | empty : ReadsA W ok (.slice none 0 0) []
  | row (g off cap : Nat) (l : List ArgP) (vs : Nat → Value) : ok g → g < W.heap.size → l.length ≤ cap → cap ≤ 9223372036854775807 → (∀ (j : Nat) (t : ArgP), l[j]? = some t → ∀ i u, (cells3 t (vs j))[i]? = some u → W.cell? ⟨g, off + j * 3 + i, none⟩ = some u) →
      (∀ (j : Nat) (t : ArgP), l[j]? = some t → ReadsA W ok (vs j) t.list) → ReadsA W ok (.slice (some ⟨g, off, none⟩) l.length cap) l
theorem readsA_keep {W W' : World} {ok ok' : Nat → Prop} {v : Value} {l : List ArgP} (h : ReadsA W ok v l) (hs : W.heap.size ≤ W'.heap.size) (hk : ∀ j, ok j → j < W.heap.size → W'.heap[j]? = W.heap[j]?) (hok : ∀ j, ok j → j < W.heap.size → ok' j) : ReadsA W' ok' v l := by
  induction h with
  | empty => exact .empty
  | row g off cap l vs h1 h2 h5 h6 h3 _ ih =>
    exact .row g off cap l vs (hok g h1 h2) (Nat.lt_of_lt_of_le h2 hs) h5 h6 (fun j t hj i u hu => (World.cell?_of_block (w := W) (a := ⟨g, off + j * 3 + i, none⟩) (hk g h1 h2)).trans (h3 j t hj i u hu)) ih
theorem readsA_below {W W' : World} {ok : Nat → Prop} {v : Value} {l : List ArgP} (h : ReadsA W ok v l) (hb : Below W.heap.size W W') : ReadsA W' ok v l :=
  readsA_keep h hb.size (fun j _ hj => hb.block j hj) (fun _ h _ => h)
theorem readsA_slice {W : World} {ok : Nat → Prop} {v : Value} {l : List ArgP} (h : ReadsA W ok v l) : ∃ a c, v = .slice a l.length c := by
  cases h with
  | empty => exact ⟨_, _, rfl⟩
  | row g off cap l vs => exact ⟨_, _, rfl⟩
/-- parts, each with the value of its own parts' slice, in one row -/
def cellsA (l : List (ArgP × Value)) : List Value := l.flatMap fun x => cells3 x.1 x.2
theorem cellsA_snoc (l : List (ArgP × Value)) (x : ArgP × Value) : cellsA l ++ cells3 x.1 x.2 = cellsA (l ++ [x]) := by simp [cellsA]
theorem cells3_len (t : ArgP) (v : Value) : (cells3 t v).length = 3 := rfl
theorem cellsA_at : ∀ (l : List (ArgP × Value)) (j : Nat) (x : ArgP × Value), l[j]? = some x → ∀ i u, (cells3 x.1 x.2)[i]? = some u → (cellsA l)[j * 3 + i]? = some u
  | [], j, x, h => by simp at h
  | y :: l, 0, x, h => by
    simp at h; subst h
    intro i u hi
    have e : cellsA (y :: l) = cells3 y.1 y.2 ++ cellsA l := rfl
    have hl : i < (cells3 y.1 y.2).length := (List.getElem?_eq_some_iff.1 hi).1
    rw [e, Nat.zero_mul, Nat.zero_add, List.getElem?_append_left hl]
    exact hi
  | y :: l, j + 1, x, h => by
    intro i u hi
    have ih := cellsA_at l j x (by simpa using h) i u hi
    have e : cellsA (y :: l) = cells3 y.1 y.2 ++ cellsA l := rfl
    have hl : (cells3 y.1 y.2).length = 3 := rfl
    rw [e, List.getElem?_append_right (by omega), hl, show (j + 1) * 3 + i - 3 = j * 3 + i by omega]
    exact ih
theorem cellsA_len : ∀ l : List (ArgP × Value), (cellsA l).length = l.length * 3
  | [] => rfl
  | x :: l => by
    have := cellsA_len l
    have e : cellsA (x :: l) = cells3 x.1 x.2 ++ cellsA l := rfl
    rw [e, List.length_append, this, cells3_len, List.length_cons]; omega
theorem readsA_of_owns {w : World} {B : Nat} {ok : Nat → Prop} {v : Value} {l : List (ArgP × Value)} (h : w.ownsRow B 37 3 v l.length (cellsA l)) (hok : ∀ g, v.ownBlock = some g → ok g) (hr : ∀ x ∈ l, ReadsA w ok x.2 x.1.list) : ReadsA w ok v (l.map (·.1)) := by
  rcases h.2 with ⟨rfl, h0⟩ | ⟨g, cap, cur, rfl, hg, hh, h3, h4, h5, h6⟩
  · have : l = [] := List.eq_nil_of_length_eq_zero h0
    subst this
    exact .empty
  · have hlen : l.length = (l.map (·.1)).length := by simp
    have hv : (Value.slice (some ⟨g, 0, none⟩) l.length cap) = .slice (some ⟨g, 0, none⟩) (l.map (·.1)).length cap := by rw [← hlen]
    rw [hv]
    refine .row g 0 cap (l.map (·.1)) (fun j => ((l[j]?).map (·.2)).getD .nilIface) (hok g rfl) (Array.getElem?_eq_some_iff.1 hh).1 (by rw [← hlen]; exact h3) (by unfold maxLen at h4; omega) ?_ ?_
    · intro j t hj i u hu
      rw [List.getElem?_map] at hj
      obtain ⟨x, hx, rfl⟩ := Option.map_eq_some_iff.1 hj
      rw [hx] at hu
      have hc := cellsA_at l j x hx i u hu
      have := h.cellAt (j * 3 + i) (by have := (List.getElem?_eq_some_iff.1 hc).1; rw [cellsA_len] at this; exact this)
      rw [Nat.zero_add]
      rw [this, hc]
    · intro j t hj
      rw [List.getElem?_map] at hj
      obtain ⟨x, hx, rfl⟩ := Option.map_eq_some_iff.1 hj
      simp only [hx, Option.map_some, Option.getD_some]
      exact hr x (List.mem_of_getElem? hx)
/-- a variable that is not the parser stays -/
theorem var_kept {w w' : World} {P a n : Nat} {S : List UInt8} {nm : String} {cs : Array Value} (h : w.var? Tryz.prog nm = some cs) (hP : ParsW w P S a n) (hk : Kept (fun k => k = P) w w') (hne : cs[0]? ≠ some (.string ⟨S.toArray⟩)) : w'.var? Tryz.prog nm = some cs := by
  unfold World.var? at h ⊢
  cases hg : Tryz.prog.globalNamed nm with
  | none => rw [hg] at h; simp at h
  | some g =>
    rw [hg] at h
    simp only [Option.bind_some, Option.bind_eq_bind] at h ⊢
    cases ho : w.heap[g]? with
    | none => simp [ho] at h
    | some o =>
      have hgP : g ≠ P := by
        rintro rfl
        unfold ParsW at hP
        rw [hP] at h
        simp at h
        subst h
        exact hne rfl
      rw [hk.obj ho hgP]
      simpa [ho] using h
theorem WireG.kept {w w' : World} {P a n : Nat} {S : List UInt8} (h : WireG w) (hP : ParsW w P S a n) (hk : Kept (fun k => k = P) w w') : WireG w' := by
  refine ⟨⟨var_kept h.str.tab hP hk ?_, ?_, ?_⟩, ?_⟩
  · intro e
    rw [show ((List.map (fun z => Value.int IntKind.u64 z) Lib.pow10Tab).toArray)[0]? = some (.int .u64 1) by kernel_rfl] at e
    cases e
  · obtain ⟨x, y, h1⟩ := h.str.syn
    exact ⟨x, y, var_kept h1 hP hk (by intro e; cases e)⟩
  · obtain ⟨x, y, h1⟩ := h.str.ran
    exact ⟨x, y, var_kept h1 hP hk (by intro e; cases e)⟩
  · obtain ⟨m, hm⟩ := h.max
    refine ⟨m, (World.cell?_of_block (w := w) (a := ⟨0, 0, none⟩) (hk.block _ (World.block_lt_of_cell? _ _ hm) ?_)).trans hm⟩
    rintro rfl
    rw [(three_cells hP).1] at hm
    cases hm
end Go.Proofs.YtbfndlmihijcgaaGreatDoor
