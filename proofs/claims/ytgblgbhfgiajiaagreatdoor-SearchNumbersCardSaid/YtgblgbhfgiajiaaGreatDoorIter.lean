/- A range over a function that keeps what is left in one cell of its own: a law of my own, by the kit's laws of a round and of the statement. No program here. No condition beyond those it names. -/
import Derived.RangeFuncNested
import Derived.RangeFuncBound
import Derived.RangeFuncCalls
import Derived.RangeFuncLeaves
import Derived.RangeFuncBox
import Derived.WalkKit
namespace Go.Proofs.YtgblgbhfgiajiaaGreatDoor
open Go.RowKit

abbrev Txt := List UInt8
/-- what a loop's caller says of its cells stays: where a block is laid, where a block from N on that holds no cells turns, where the cell of block B is written -/
structure Steady (N B : Nat) (I : List Txt → World → Prop) : Prop where
  lay : ∀ s W o, I s W → I s (W.alloc o)
  put : ∀ s W l o o', N ≤ l → W.heap[l]? = some o → o.isCells = false → I s W → I s (W.putObj l o')
  set : ∀ s W v, I s W → I s (W.setCell ⟨B, 0, none⟩ v)
/-- what one round does of the loop's text x: it goes on and leaves the blocks T, or it ends the loop -/
def RoundT (P : Program) (l : Nat) (T : Nat → Prop) (J Jx : List Txt → World → Prop) : Prop := ∀ pre x W1, x.length ≤ 2000000 → J pre W1 → YieldAt Fence.wide 3 P l #[.string ⟨x.toArray⟩] W1 fun e W' =>
  (e = .returned (.bool true) ∧ J (pre ++ [x]) W' ∧ (∀ k, T k → W'.heap[k]? = W1.heap[k]?) ∧ W1.heap.size ≤ W'.heap.size) ∨ (e = .returned (.bool false) ∧ Jx (pre ++ [x]) W')
/-- what a function that gives the texts xs promises: whatever the rounds are, as long as they leave its cell alone -/
def GivesT (P : Program) (g : Nat) (lb : Array Value) (B : Nat) (T : Nat → Prop) (N : Nat) (xs : List Txt) (w : World) : Prop := ∀ (l : Nat) (J Jx : List Txt → World → Prop) (W : World),
  w.heap.size ≤ W.heap.size → (∀ k, k < N → W.heap[k]? = w.heap[k]?) → (∀ s W v, J s W → J s (W.setCell ⟨B, 0, none⟩ v)) → RoundT P l T J Jx → J [] W →
  CallsIn Fence.wide 4 P g (#[.func (.yield l) #[] #[]] ++ lb) W fun e W' => (∃ v, e = .returned v) ∧ (J xs W' ∨ ∃ pre, pre <+: xs ∧ Jx pre W')
/-- how a round's body may be left -/
def roundQ (I : List Txt → World → Prop) (Ix : List Txt → World → Prop) (T : Nat → Prop) (s : List Txt) (W : World) : Exit → Act → World → Prop
  | .normal, _, W' => KeepsOthers W W' ∧ I s W' ∧ ∀ k, T k → W'.heap[k]? = W.heap[k]?
  | .ret, _, W' => KeepsOthers W W' ∧ Ix s W'
  | _, _, _ => False

theorem wp_range {P : Program} {g : Operand} {p : Tmp} {assign body : Code} {Q : Exit → Act → World → Prop} {a : Act} {w : World} {gf B : Nat} {T : Nat → Prop} {lb : Array Value} {xs : List Txt}
    (hg : a.eval g = .func (.func gf) #[] lb) (eg : ∀ args w, (callFunc gf args).run P w = .ok (.enter gf args) w) (hT : ∀ k, T k → k < w.heap.size) (hseq : GivesT P gf lb B T w.heap.size xs w)
    (I Ix : List Txt → World → Prop) (hI : Steady w.heap.size B I) (hIx : Steady w.heap.size B Ix) (h0 : I [] w) (a₁ : Txt → Act)
    (hassign : ∀ (l : Nat) (x : Txt) (W : World) (K : Act → World → Prop), K (a₁ x) W → assign.wpIn (Fence.wide.inRound l) 3 P (Exit.then K (fun _ _ _ => False)) { tmps := a.tmps.setIfInBounds p (.string ⟨x.toArray⟩), defers := [] } W)
    (hbody : ∀ (l : Nat) (pre : List Txt) (x : Txt) (W : World), x.length ≤ 2000000 → I pre W → w.heap.size ≤ W.heap.size → body.wpIn (Fence.wide.inRound l) 3 P (roundQ I Ix T (pre ++ [x]) W) (a₁ x) W)
    (hdone : ∀ (D : Nat) (W : World), w.heap.size ≤ D → I xs W → W.heap[D]? = some (.deferred (some [])) → Q .normal { a with defers := { target := .collected D, args := #[] } :: a.defers } W)
    (hstop : ∀ (D : Nat) (pre : List Txt) (W : World), w.heap.size ≤ D → pre <+: xs → Ix pre W → W.heap[D]? = some (.deferred (some [])) → Code.ret.wpIn Fence.wide 5 P Q { a with defers := { target := .collected D, args := #[] } :: a.defers } W) :
    (Code.rangeFunc g #[p] assign body).wpIn Fence.wide 5 P Q a w := by
  refine wpIn_rangeFunc ?_
  intro fn hfn
  obtain ⟨N, hN⟩ : ∃ N, w.heap.size = N := ⟨_, rfl⟩
  rw [hN] at hI hIx hT hseq hdone hstop hbody
  -- the record of the loop, as it stands between two rounds, and at its end
  obtain ⟨rec, hrec⟩ : ∃ rec : LoopState → Option Code → Loop, rec = fun st pe => { state := st, pending := pe, fn, tmps := a.tmps, params := #[p], assign, body, defers := N } := ⟨_, rfl⟩
  obtain ⟨W1, hW1⟩ : ∃ W1, (w.alloc (.deferred (some []))).alloc (.loop (rec .ready none)) = W1 := ⟨_, rfl⟩
  have hz : W1.heap.size = N + 2 := by rw [← hW1]; simp [hN]
  have hold : ∀ k, k < N → W1.heap[k]? = w.heap[k]? := fun k hk => by
    rw [← hW1, Below.heap_alloc _ _ _ (by simp; omega), Below.heap_alloc _ _ _ (by omega)]
  have hD1 : W1.heap[N]? = some (.deferred (some [])) := by
    rw [← hW1, Below.heap_alloc _ _ _ (by simp; omega), ← hN]; exact World.alloc_heap_new w _
  have hL1 : W1.heap[N + 1]? = some (.loop (rec .ready none)) := by
    have h := World.alloc_heap_new (w.alloc (.deferred (some []))) (.loop (rec .ready none))
    rw [World.size_alloc, hN, hW1] at h; exact h
  have hI1 : I [] W1 := by rw [← hW1]; exact hI.lay _ _ _ (hI.lay _ _ _ h0)
  refine ⟨N + 1, [{ target := .collected N, args := #[] }], W1, { target := .fn (.func gf) lb, args := #[.func (.yield (N + 1)) #[] #[]] }, W1, gf, #[.func (.yield (N + 1)) #[] #[]] ++ lb, W1, ?_, ?_, fun _ _ => trivial, ?_, (fun _ => by decide), ?_⟩
  · have h := run_enterLoop_outer (P := P) (w := w) fn a.tmps #[p] assign body
    rw [hN] at h
    rw [← hW1, hrec]; exact h
  · simp only [resolve, hg]
    simp [go_sem]
  · simp [invoke, go_sem, eg]
  -- the function's promise, at the caller's own word with the record and the deferred calls' block beside it
  refine (hseq (N + 1) (fun s W => I s W ∧ W.heap[N + 1]? = some (.loop (rec .ready none)) ∧ W.heap[N]? = some (.deferred (some [])) ∧ N ≤ W.heap.size)
    (fun s W => Ix s W ∧ W.heap[N + 1]? = some (.loop (rec .done (some .ret))) ∧ W.heap[N]? = some (.deferred (some []))) W1 (by omega) hold ?_ ?_ ⟨hI1, hL1, hD1, by omega⟩).mono ?_
  · rintro s W v ⟨q1, q2, q3, q4⟩
    have hk := KeepsOthers.setCell W ⟨B, 0, none⟩ v
    exact ⟨hI.set _ _ _ q1, hk.same _ _ q2 rfl, hk.same _ _ q3 rfl, Nat.le_trans q4 hk.size⟩
  · -- one round
    rintro pre x W hxl ⟨q1, q2, q3, q4⟩
    have hy := run_yield (P := P) (args := #[.string ⟨x.toArray⟩]) q2 (by rw [hrec]; rfl)
    rw [hrec] at hy
    have hy2 : (Instr.yield (N + 1) #[.string ⟨x.toArray⟩]).run P W = .ok (.round (N + 1) fn (a.tmps.setIfInBounds p (.string ⟨x.toArray⟩)) assign body) W := by rw [hy]; simp
    have hlt : N + 1 < W.heap.size := (Array.getElem?_eq_some_iff.1 q2).1
    have b1 : (W.putObj (N + 1) (.loop { rec .ready none with state := .busy })).heap[N + 1]? = some (.loop { rec .ready none with state := .busy }) := World.putObj_heap_same hlt
    have b2 : (W.putObj (N + 1) (.loop { rec .ready none with state := .busy })).heap[N]? = some (.deferred (some [])) := (World.putObj_heap_other (by omega)).trans q3
    refine ⟨fn, _, assign, body, hy2, roundIn_of_wpIn hfn ?_⟩
    refine hassign _ x W _ ?_
    refine ⟨_, run_beginRound q2 (by rw [hrec]), ?_⟩
    refine wpIn_mono (hbody _ pre x _ hxl (hI.put _ _ _ _ _ (by omega) q2 rfl q1) (by simp; omega)) ?_
    rintro e a3 W3 hp
    have fin : ∀ (jump : Option Code), KeepsOthers (W.putObj (N + 1) (.loop { rec .ready none with state := .busy })) W3 →
        (Instr.endRound (N + 1) jump).run P W3 = .ok (.bool jump.isNone) (W3.putObj (N + 1) (.loop (rec (if jump.isNone then .ready else .done) jump))) ∧ W3.heap[N + 1]? = some (.loop { rec .ready none with state := .busy }) ∧ W3.heap[N]? = some (.deferred (some [])) ∧ W.heap.size ≤ W3.heap.size := fun jump hk => by
      have h1 := hk.same _ _ b1 rfl
      have h2 := run_endRound (P := P) jump h1
      rw [hrec] at h2 ⊢
      rw [hrec] at h1
      exact ⟨h2, h1, hk.same _ _ b2 rfl, by have := hk.size; simpa using this⟩
    cases e with
    | normal =>
      obtain ⟨hk, hi, hb⟩ := hp
      obtain ⟨f1, f2, f3, f4⟩ := fin none hk
      refine ⟨_, _, f1, .inl ⟨rfl, ⟨hI.put _ _ _ _ _ (by omega) f2 rfl hi, World.putObj_heap_same (Array.getElem?_eq_some_iff.1 f2).1, (World.putObj_heap_other (by omega)).trans f3, by simp; omega⟩, fun k hk2 => ?_, by simp; omega⟩⟩
      have hkl := hT k hk2
      rw [World.putObj_heap_other (by omega), hb k hk2, World.putObj_heap_other (by omega)]
    | ret =>
      obtain ⟨hk, hi⟩ := hp
      obtain ⟨f1, f2, f3, f4⟩ := fin (some .ret) hk
      exact ⟨_, _, f1, .inr ⟨rfl, hIx.put _ _ _ _ _ (by omega) f2 rfl hi, World.putObj_heap_same (Array.getElem?_eq_some_iff.1 f2).1, (World.putObj_heap_other (by omega)).trans f3⟩⟩
    | exit id => exact hp.elim
    | goto t => exact hp.elim
    | panic ch => exact hp.elim
    | outgrown => exact hp.elim
  · -- behind the function
    rintro e W2 ⟨⟨v, rfl⟩, (⟨q1, q2, q3, q4⟩ | ⟨pre, q0, q1, q2, q3⟩)⟩
    · have h := run_endLoop (P := P) q2 (by rw [hrec]; simp)
      rw [hrec] at h
      exact ⟨none, _, h, hdone N _ (Nat.le_refl _) (hI.put _ _ _ _ _ (by omega) q2 rfl q1) ((World.putObj_heap_other (by omega)).trans q3)⟩
    · have h := run_endLoop (P := P) q2 (by rw [hrec]; simp)
      rw [hrec] at h
      exact ⟨some .ret, _, h, hstop N pre _ (Nat.le_refl _) q0 (hIx.put _ _ _ _ _ (by omega) q2 rfl q1) ((World.putObj_heap_other (by omega)).trans q3)⟩
end Go.Proofs.YtgblgbhfgiajiaaGreatDoor
