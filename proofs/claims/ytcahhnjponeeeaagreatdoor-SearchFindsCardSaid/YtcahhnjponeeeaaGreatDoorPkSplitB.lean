/- A range over a function that keeps what is left in one cell of its own: a law of my own, by the kit's laws of a round and of the statement. No program here. No condition beyond those it names. The walks over strings.SplitSeq at a comma: what it gives are the texts between commas. Condition: bytealg.MaxLen lies. strconv's variables, and its Atoi and Itoa. Conditions: strconv's table of powers and its two errors lie as the program's text lays them. The walks over strings.SplitSeq (what it returns) and seq.number. Conditions: strconv's table of powers and its two errors lie as the program's text lays them. -/
import Derived.RangeFuncNested
import Derived.RangeFuncBound
import Derived.RangeFuncCalls
import Derived.RangeFuncLeaves
import Derived.RangeFuncBox
import Derived.WalkKit
import Derived.Shelf.Abstract
import Derived.Shelf.RegionOpen
import Derived.OwnWalkIn
import Derived.TacticsInMore
import Derived.LoopNIn
import Derived.LoopIn
import Derived.Test.YtcahhnjponeeeaaGreatDoorRows
import Derived.Lib.AtoiAll
import Derived.Lib.ItoaNum
import Derived.Lib.ConvBytes
import Derived.IntWalk
import Derived.Test.YtcahhnjponeeeaaGreatDoorPkPSearch3
import Derived.Test.YtcahhnjponeeeaaGreatDoorPkShelf
import Derived.Test.YtcahhnjponeeeaaGreatDoorPkKit2
import Derived.Test.YtcahhnjponeeeaaGreatDoorPkText
namespace Go.Proofs.YtcahhnjponeeeaaGreatDoor
open Go.RowKit
abbrev Txt := List UInt8
/-- what a loop's caller says of its cells stays: where a block is laid, where a block from N on that holds no cells turns, where the cell of block B is written -/
structure Steady (N B : Nat) (I : List Txt → World → Prop) : Prop where
  lay : ∀ s W o, I s W → I s (W.alloc o)
  put : ∀ s W l o o', N ≤ l → W.heap[l]? = some o → o.isCells = false → I s W → I s (W.putObj l o')
  set : ∀ s W v, I s W → I s (W.setCell ⟨B, 0, none⟩ v)
/-- what one round does of the loop's text x: it goes on and leaves the blocks T, or it ends the loop -/
def RoundT (P : Program) (l : Nat) (T : Nat → Prop) (J Jx : List Txt → World → Prop) : Prop := ∀ pre x W1, x.length ≤ 2000000 → J pre W1 → YieldAt Fence.wide 3 P l #[.string ⟨x.toArray⟩] W1 fun e W' =>
  (e = .returned (.bool true) ∧ J (pre ++ [x]) W' ∧ (∀ k, T k → W'.heap[k]? = W1.heap[k]?) ∧ W1.heap.size ≤ W'.heap.size) ∨ (e = .returned (.bool false) ∧ Jx (pre ++ [x]) W')
/-- what a function that gives the texts xs promises: whatever the rounds are, as long as they leave its cell alone -/
def GivesT (P : Program) (g : Nat) (lb : Array Value) (B : Nat) (T : Nat → Prop) (N : Nat) (xs : List Txt) (w : World) : Prop := ∀ (l : Nat) (J Jx : List Txt → World → Prop) (W : World),
  w.heap.size ≤ W.heap.size → (∀ k, k < N → W.heap[k]? = w.heap[k]?) → (∀ s W v, J s W → J s (W.setCell ⟨B, 0, none⟩ v)) → RoundT P l T J Jx → J [] W →
  CallsIn Fence.wide 4 P g (#[.func (.yield l) #[] #[]] ++ lb) W fun e W' => (∃ v, e = .returned v) ∧ (J xs W' ∨ ∃ pre, pre <+: xs ∧ Jx pre W')
/-- how a round's body may be left -/
def roundQ (I : List Txt → World → Prop) (Ix : List Txt → World → Prop) (T : Nat → Prop) (s : List Txt) (W : World) : Exit → Act → World → Prop
  | .normal, _, W' => KeepsOthers W W' ∧ I s W' ∧ ∀ k, T k → W'.heap[k]? = W.heap[k]?
  | .ret, _, W' => KeepsOthers W W' ∧ Ix s W'
  | _, _, _ => False
theorem wp_range {P : Program} {g : Operand} {p : Tmp} {assign body : Code} {Q : Exit → Act → World → Prop} {a : Act} {w : World} {gf B : Nat} {T : Nat → Prop} {lb : Array Value} {xs : List Txt}
    (hg : a.eval g = .func (.func gf) #[] lb) (eg : ∀ args w, (callFunc gf args).run P w = .ok (.enter gf args) w) (hT : ∀ k, T k → k < w.heap.size) (hseq : GivesT P gf lb B T w.heap.size xs w)
    (I Ix : List Txt → World → Prop) (hI : Steady w.heap.size B I) (hIx : Steady w.heap.size B Ix) (h0 : I [] w) (a₁ : Txt → Act)
    (hassign : ∀ (l : Nat) (x : Txt) (W : World) (K : Act → World → Prop), K (a₁ x) W → assign.wpIn (Fence.wide.inRound l) 3 P (Exit.then K (fun _ _ _ => False)) { tmps := a.tmps.setIfInBounds p (.string ⟨x.toArray⟩), defers := [] } W)
    (hbody : ∀ (l : Nat) (pre : List Txt) (x : Txt) (W : World), x.length ≤ 2000000 → I pre W → w.heap.size ≤ W.heap.size → body.wpIn (Fence.wide.inRound l) 3 P (roundQ I Ix T (pre ++ [x]) W) (a₁ x) W)
    (hdone : ∀ (D : Nat) (W : World), w.heap.size ≤ D → I xs W → W.heap[D]? = some (.deferred (some [])) → Q .normal { a with defers := { target := .collected D, args := #[] } :: a.defers } W)
    (hstop : ∀ (D : Nat) (pre : List Txt) (W : World), w.heap.size ≤ D → pre <+: xs → Ix pre W → W.heap[D]? = some (.deferred (some [])) → Code.ret.wpIn Fence.wide 5 P Q { a with defers := { target := .collected D, args := #[] } :: a.defers } W) :
    (Code.rangeFunc g #[p] assign body).wpIn Fence.wide 5 P Q a w := by
  refine wpIn_rangeFunc ?_
  intro fn hfn
  obtain ⟨N, hN⟩ : ∃ N, w.heap.size = N := ⟨_, rfl⟩
  rw [hN] at hI hIx hT hseq hdone hstop hbody
  -- the record of the loop, as it stands between two rounds, and at its end
  obtain ⟨rec, hrec⟩ : ∃ rec : LoopState → Option Code → Loop, rec = fun st pe => { state := st, pending := pe, fn, tmps := a.tmps, params := #[p], assign, body, defers := N } := ⟨_, rfl⟩
  obtain ⟨W1, hW1⟩ : ∃ W1, (w.alloc (.deferred (some []))).alloc (.loop (rec .ready none)) = W1 := ⟨_, rfl⟩
  have hz : W1.heap.size = N + 2 := by rw [← hW1]; simp [hN]
  have hold : ∀ k, k < N → W1.heap[k]? = w.heap[k]? := fun k hk => by
    rw [← hW1, Below.heap_alloc _ _ _ (by simp; omega), Below.heap_alloc _ _ _ (by omega)]
  have hD1 : W1.heap[N]? = some (.deferred (some [])) := by
    rw [← hW1, Below.heap_alloc _ _ _ (by simp; omega), ← hN]; exact World.alloc_heap_new w _
  have hL1 : W1.heap[N + 1]? = some (.loop (rec .ready none)) := by
    have h := World.alloc_heap_new (w.alloc (.deferred (some []))) (.loop (rec .ready none))
    rw [World.size_alloc, hN, hW1] at h; exact h
  have hI1 : I [] W1 := by rw [← hW1]; exact hI.lay _ _ _ (hI.lay _ _ _ h0)
  refine ⟨N + 1, [{ target := .collected N, args := #[] }], W1, { target := .fn (.func gf) lb, args := #[.func (.yield (N + 1)) #[] #[]] }, W1, gf, #[.func (.yield (N + 1)) #[] #[]] ++ lb, W1, ?_, ?_, fun _ _ => trivial, ?_, (fun _ => by decide), ?_⟩
  · have h := run_enterLoop_outer (P := P) (w := w) fn a.tmps #[p] assign body
    rw [hN] at h
    rw [← hW1, hrec]; exact h
  · simp only [resolve, hg]
    simp [go_sem]
  · simp [invoke, go_sem, eg]
  -- the function's promise, at the caller's own word with the record and the deferred calls' block beside it
  refine (hseq (N + 1) (fun s W => I s W ∧ W.heap[N + 1]? = some (.loop (rec .ready none)) ∧ W.heap[N]? = some (.deferred (some [])) ∧ N ≤ W.heap.size)
    (fun s W => Ix s W ∧ W.heap[N + 1]? = some (.loop (rec .done (some .ret))) ∧ W.heap[N]? = some (.deferred (some []))) W1 (by omega) hold ?_ ?_ ⟨hI1, hL1, hD1, by omega⟩).mono ?_
  · rintro s W v ⟨q1, q2, q3, q4⟩
    have hk := KeepsOthers.setCell W ⟨B, 0, none⟩ v
    exact ⟨hI.set _ _ _ q1, hk.same _ _ q2 rfl, hk.same _ _ q3 rfl, Nat.le_trans q4 hk.size⟩
  · -- one round
    rintro pre x W hxl ⟨q1, q2, q3, q4⟩
    have hy := run_yield (P := P) (args := #[.string ⟨x.toArray⟩]) q2 (by rw [hrec]; rfl)
    rw [hrec] at hy
    have hy2 : (Instr.yield (N + 1) #[.string ⟨x.toArray⟩]).run P W = .ok (.round (N + 1) fn (a.tmps.setIfInBounds p (.string ⟨x.toArray⟩)) assign body) W := by rw [hy]; simp
    have hlt : N + 1 < W.heap.size := (Array.getElem?_eq_some_iff.1 q2).1
    have b1 : (W.putObj (N + 1) (.loop { rec .ready none with state := .busy })).heap[N + 1]? = some (.loop { rec .ready none with state := .busy }) := World.putObj_heap_same hlt
    have b2 : (W.putObj (N + 1) (.loop { rec .ready none with state := .busy })).heap[N]? = some (.deferred (some [])) := (World.putObj_heap_other (by omega)).trans q3
    refine ⟨fn, _, assign, body, hy2, roundIn_of_wpIn hfn ?_⟩
    refine hassign _ x W _ ?_
    refine ⟨_, run_beginRound q2 (by rw [hrec]), ?_⟩
    refine wpIn_mono (hbody _ pre x _ hxl (hI.put _ _ _ _ _ (by omega) q2 rfl q1) (by simp; omega)) ?_
    rintro e a3 W3 hp
    have fin : ∀ (jump : Option Code), KeepsOthers (W.putObj (N + 1) (.loop { rec .ready none with state := .busy })) W3 →
        (Instr.endRound (N + 1) jump).run P W3 = .ok (.bool jump.isNone) (W3.putObj (N + 1) (.loop (rec (if jump.isNone then .ready else .done) jump))) ∧ W3.heap[N + 1]? = some (.loop { rec .ready none with state := .busy }) ∧ W3.heap[N]? = some (.deferred (some [])) ∧ W.heap.size ≤ W3.heap.size := fun jump hk => by
      have h1 := hk.same _ _ b1 rfl
      have h2 := run_endRound (P := P) jump h1
      rw [hrec] at h2 ⊢
      rw [hrec] at h1
      exact ⟨h2, h1, hk.same _ _ b2 rfl, by have := hk.size; simpa using this⟩
    cases e with
    | normal =>
      obtain ⟨hk, hi, hb⟩ := hp
      obtain ⟨f1, f2, f3, f4⟩ := fin none hk
      refine ⟨_, _, f1, .inl ⟨rfl, ⟨hI.put _ _ _ _ _ (by omega) f2 rfl hi, World.putObj_heap_same (Array.getElem?_eq_some_iff.1 f2).1, (World.putObj_heap_other (by omega)).trans f3, by simp; omega⟩, fun k hk2 => ?_, by simp; omega⟩⟩
      have hkl := hT k hk2
      rw [World.putObj_heap_other (by omega), hb k hk2, World.putObj_heap_other (by omega)]
    | ret =>
      obtain ⟨hk, hi⟩ := hp
      obtain ⟨f1, f2, f3, f4⟩ := fin (some .ret) hk
      exact ⟨_, _, f1, .inr ⟨rfl, hIx.put _ _ _ _ _ (by omega) f2 rfl hi, World.putObj_heap_same (Array.getElem?_eq_some_iff.1 f2).1, (World.putObj_heap_other (by omega)).trans f3⟩⟩
    | exit id => exact hp.elim
    | goto t => exact hp.elim
    | panic ch => exact hp.elim
    | outgrown => exact hp.elim
  · -- behind the function
    rintro e W2 ⟨⟨v, rfl⟩, (⟨q1, q2, q3, q4⟩ | ⟨pre, q0, q1, q2, q3⟩)⟩
    · have h := run_endLoop (P := P) q2 (by rw [hrec]; simp)
      rw [hrec] at h
      exact ⟨none, _, h, hdone N _ (Nat.le_refl _) (hI.put _ _ _ _ _ (by omega) q2 rfl q1) ((World.putObj_heap_other (by omega)).trans q3)⟩
    · have h := run_endLoop (P := P) q2 (by rw [hrec]; simp)
      rw [hrec] at h
      exact ⟨some .ret, _, h, hstop N pre _ (Nat.le_refl _) q0 (hIx.put _ _ _ _ _ (by omega) q2 rfl q1) ((World.putObj_heap_other (by omega)).trans q3)⟩
end Go.Proofs.YtcahhnjponeeeaaGreatDoor
namespace Go.Proofs.YtcahhnjponeeeaaGreatDoor
open Go.RowKit Go.Shelf Go.Sort
attribute [local go_sem] Oper.semAt_some
set_option linter.unusedSimpArgs false
/-- how long the text in a cell is -/
def cellLen (w : World) (B : Nat) : Nat := match w.cell? ⟨B, 0, none⟩ with
  | some (.string b) => b.size + 1
  | _ => 0
theorem cellLen_of {w : World} {B : Nat} {s : Txt} (h : w.heap[B]? = some (.cells #[.string ⟨s.toArray⟩] 9 (0, 0))) : cellLen w B = s.length + 1 := by
  unfold cellLen
  rw [Lib.cell_of_heap h]
  show (⟨s.toArray⟩ : ByteArray).size + 1 = _
  rw [text_size]
theorem set1 {w : World} {B : Nat} {u v : Value} {t : TypeId} (h : w.heap[B]? = some (.cells #[u] t (0, 0))) : (w.setCell ⟨B, 0, none⟩ v).heap[B]? = some (.cells #[v] t (0, 0)) := by
  simp only [World.setCell, Array.getElem?_modify, if_pos, h]
  simp
/-- the iterator's three boxes, and the library's bound -/
structure SplitW (B M : Nat) (s : Txt) (w : World) : Prop where
  s0 : w.heap[B]? = some (.cells #[.string ⟨s.toArray⟩] 9 (0, 0))
  s1 : w.heap[B + 1]? = some (.cells #[.string ⟨#[44]⟩] 9 (0, 0))
  s2 : w.heap[B + 2]? = some (.cells #[.int .i64 0] 3 (0, 0))
  max : ∃ m, w.cell? ⟨M, 0, none⟩ = some (.int .i64 m)
/-- which blocks a round keeps -/
def KeptT (B M : Nat) (k : Nat) : Prop := k = M ∨ B ≤ k ∧ k ≤ B + 2
theorem SplitW.keep {B M : Nat} {s : Txt} {w w' : World} (h : SplitW B M s w) (hk : ∀ k, KeptT B M k → w'.heap[k]? = w.heap[k]?) : SplitW B M s w' := by
  refine ⟨(hk _ (Or.inr ⟨by omega, by omega⟩)).trans h.s0, (hk _ (Or.inr ⟨by omega, by omega⟩)).trans h.s1, (hk _ (Or.inr ⟨by omega, by omega⟩)).trans h.s2, ?_⟩
  obtain ⟨m, hm⟩ := h.max
  exact ⟨m, (World.cell?_of_block (w := w) (a := ⟨M, 0, none⟩) (hk _ (Or.inl rfl))).trans hm⟩
theorem SplitW.set {B M : Nat} {s t : Txt} {w : World} (h : SplitW B M s w) (hM : M ≠ B) : SplitW B M t (w.setCell ⟨B, 0, none⟩ (.string ⟨t.toArray⟩)) := by
  refine ⟨set1 h.s0, (Below.heap_setCell _ _ _ _ (by simp)).trans h.s1, (Below.heap_setCell _ _ _ _ (by simp)).trans h.s2, ?_⟩
  obtain ⟨m, hm⟩ := h.max
  exact ⟨m, (World.cell?_of_block (w := w) (a := ⟨M, 0, none⟩) (Below.heap_setCell _ _ _ _ hM)).trans hm⟩
set_option maxRecDepth 100000 in
set_option maxHeartbeats 8000000 in
theorem split1_any (S : Txt) (B N : Nat) (w : World) (hS : S.length ≤ 2000000) (hw : SplitW B 1 S w) (hM : 1 < B) (hN : B + 2 < N) :
    GivesT Tryz.prog 157 #[.pointer (some ⟨B + 1, 0, none⟩), .pointer (some ⟨B, 0, none⟩), .pointer (some ⟨B + 2, 0, none⟩)] B (KeptT B 1) N (commas S) w := by
  intro l J Jx W hsz hW hJset hY h0
  have hW0 : SplitW B 1 S W := hw.keep fun k hk => hW k (by rcases hk with rfl | ⟨_, hk⟩ <;> omega)
  clear hw hW hsz
  obtain ⟨c0, c1, c2⟩ : W.cell? ⟨B, 0, none⟩ = some (.string ⟨S.toArray⟩) ∧ W.cell? ⟨B + 1, 0, none⟩ = some (.string ⟨#[44]⟩) ∧ W.cell? ⟨B + 2, 0, none⟩ = some (.int .i64 0) := ⟨by rw [Lib.cell_of_heap hW0.s0]; rfl, by rw [Lib.cell_of_heap hW0.s1]; rfl, by rw [Lib.cell_of_heap hW0.s2]; rfl⟩
  refine callsIn_of_wp Tryz.func157 rfl trivial ?_ rfl
  simp only [Tryz.ntmps157, List.size_toArray, List.length_cons, List.length_nil, Nat.reduceAdd, Nat.reduceSub, Array.replicate_succ, Array.replicate_zero, List.push_toArray, List.append_toArray, List.nil_append, List.cons_append]
  gi_wp2
  gi_loopw [7, 8] (fun s7 s8 wr => ∃ (pre : List Txt) (r : Txt), r.length ≤ S.length ∧ commas S = pre ++ commas r ∧ SplitW B 1 r wr ∧ J pre wr) (fun s7 s8 wr => cellLen wr B)
  case atStart => exact ⟨[], S, Nat.le_refl _, rfl, hW0, h0⟩
  case round =>
    clear c0 c1 c2 hW0 h0
    obtain ⟨pre, r, hr, hcs, hw, hj⟩ := hrel
    obtain ⟨m, hm⟩ := hw.max
    have hts := text_size r
    obtain ⟨c0, c1, c2⟩ : wr.cell? ⟨B, 0, none⟩ = some (.string ⟨r.toArray⟩) ∧ wr.cell? ⟨B + 1, 0, none⟩ = some (.string ⟨#[44]⟩) ∧ wr.cell? ⟨B + 2, 0, none⟩ = some (.int .i64 0) := ⟨by rw [Lib.cell_of_heap hw.s0]; rfl, by rw [Lib.cell_of_heap hw.s1]; rfl, by rw [Lib.cell_of_heap hw.s2]; rfl⟩
    have cI : Calls Tryz.prog 56 #[.string ⟨r.toArray⟩, .string ⟨#[44]⟩] wr fun e w' => e = .returned (.int .i64 (Lib.index r [44])) ∧ w' = wr := Tryz.strings_Index ⟨r.toArray⟩ ⟨#[44]⟩ m wr (by rw [text_size]; omega) hm
    have hroom := Lib.index_room r [44]
    have hge := Lib.index_ge r [44]
    have hlast := fun h => commas_last (s := r) h
    have hnext := fun i h => commas_next (s := r) (i := i) h
    have HW := Lib.hid hw
    have HC := Lib.hid hcs
    clear hm hw hcs
    generalize Lib.index r [44] = K at cI hroom hge hlast hnext
    by_cases hk : K < 0
    · have HL := Lib.hid (hlast hk)
      clear hlast hnext hroom hge
      obtain ⟨fn, tmps, assign, body, hy, hR⟩ := hY pre r wr (by omega) hj
      gi_wp2_with (refine ⟨trivial, ?_⟩; gi_at_call 56; refine (callsIn_wide.2 cI).mono ?_; rintro e w1 ⟨rfl, hw⟩; rw [hw]; clear hw)
      refine hR.mono ?_
      rintro e W3 (⟨rfl, hJ3, -, -⟩ | ⟨rfl, hJx3⟩)
      · gi_wp2
        go_end0
        exact ⟨⟨_, rfl⟩, Or.inl (by rw [HC.out, HL.out]; exact hJ3)⟩
      · gi_wp2
        go_end0
        exact ⟨⟨_, rfl⟩, Or.inr ⟨_, by rw [HC.out, HL.out]; exact List.prefix_refl _, hJx3⟩⟩
    · obtain ⟨i, rfl⟩ := Int.eq_ofNat_of_zero_le (show 0 ≤ K by omega)
      have hil : i + 1 ≤ r.length := by have := hroom (by omega); simp at this; omega
      have HL := Lib.hid (hnext i rfl)
      clear hlast hnext hroom hge
      have hx : (⟨r.toArray⟩ : ByteArray).extract 0 i = ⟨(r.take i).toArray⟩ := by rw [text_part]; simp
      have hx2 : (⟨r.toArray⟩ : ByteArray).extract (i + 1) r.length = ⟨(r.drop (i + 1)).toArray⟩ := by rw [text_part]; congr 2; rw [List.take_of_length_le (by simp)]
      have z1 : (i : Int) ≤ (r.length : Int) := by omega
      have z2 : (i : Int) + 1 ≤ (r.length : Int) := by omega
      have z3 : ((i : Int) + 1).toNat = i + 1 := by omega
      obtain ⟨fn, tmps, assign, body, hy, hR⟩ := hY pre (r.take i) wr (by rw [List.length_take]; omega) hj
      gi_wp2_with (refine ⟨trivial, ?_⟩; gi_at_call 56; refine (callsIn_wide.2 cI).mono ?_; rintro e w1 ⟨rfl, hw⟩; rw [hw]; clear hw)
      refine hR.mono ?_
      rintro e W3 (⟨rfl, hJ3, hk3, -⟩ | ⟨rfl, hJx3⟩)
      · have hw3 := HW.out.keep hk3
        obtain ⟨d0, d1⟩ : W3.cell? ⟨B, 0, none⟩ = some (.string ⟨r.toArray⟩) ∧ W3.cell? ⟨B + 1, 0, none⟩ = some (.string ⟨#[44]⟩) := ⟨by rw [Lib.cell_of_heap hw3.s0]; rfl, by rw [Lib.cell_of_heap hw3.s1]; rfl⟩
        have f0 := Lib.frozen_of_heap hw3.s0 0
        have HW3 := Lib.hid hw3
        have HS3 := Lib.hid (hw3.set (t := r.drop (i + 1)) (by omega))
        have hm1 := cellLen_of hw3.s0
        have hm2 := cellLen_of HS3.out.s0
        clear hw3 hk3 hx
        gi_wp2
        go_roundw
        case rel => exact ⟨pre ++ [r.take i], r.drop (i + 1), by rw [List.length_drop]; omega, by rw [HC.out, HL.out]; simp, HS3.out, hJset _ _ _ hJ3⟩
        case measure => rw [hm2]; have := cellLen_of HW.out.s0; rw [this, List.length_drop]; omega
      · gi_wp2
        refine bodyPost_ret (results_none rfl _ _ _) rfl ?_
        exact ⟨⟨_, rfl⟩, Or.inr ⟨_, by rw [HC.out, HL.out]; exact ⟨commas (r.drop (i + 1)), by simp⟩, hJx3⟩⟩
end Go.Proofs.YtcahhnjponeeeaaGreatDoor
namespace Go.Proofs.YtcahhnjponeeeaaGreatDoor
open Go.RowKit Go.Shelf Go.Sort
theorem var_below {w w' : World} {n : String} {cs : Array Value} (h : w.var? Tryz.prog n = some cs) (hb : Below w.heap.size w w') : w'.var? Tryz.prog n = some cs := by
  unfold World.var? at h ⊢
  cases hg : Tryz.prog.globalNamed n with
  | none => rw [hg] at h; simp at h
  | some g =>
    rw [hg] at h
    simp only [Option.bind_some, Option.bind_eq_bind] at h ⊢
    cases ho : w.heap[g]? with
    | none => simp [ho] at h
    | some o =>
      rw [below_same hb ho]
      simpa [ho] using h
structure StrG (w : World) : Prop where
  tab : Lib.TabIs Tryz.prog w "internal/strconv.uint64pow10" .u64 Lib.pow10Tab
  syn : ∃ tp p, w.var? Tryz.prog "strconv.ErrSyntax" = some #[.iface tp p]
  ran : ∃ tp p, w.var? Tryz.prog "strconv.ErrRange" = some #[.iface tp p]
theorem StrG.below {w w' : World} (h : StrG w) (hb : Below w.heap.size w w') : StrG w' :=
  ⟨var_below h.tab hb, by obtain ⟨a, b, h⟩ := h.syn; exact ⟨a, b, var_below h hb⟩, by obtain ⟨a, b, h⟩ := h.ran; exact ⟨a, b, var_below h hb⟩⟩
theorem atoi_yes (s : List UInt8) (v : Int) (w : World) (h : Lib.atoiAll s = .ok v) (hs : s.length ≤ 2000000) :
    Calls Tryz.prog 98 #[.string ⟨s.toArray⟩] w fun e w' => e = .returned (.tuple #[.int .i64 v, .nilIface]) ∧ Below w.heap.size w w' := by
  refine (Tryz.strconv_Atoi_ok ⟨s.toArray⟩ (by rw [text_size]; omega) v h w).mono ?_
  rintro e w' ⟨rfl, h⟩
  refine ⟨rfl, ?_⟩
  rcases h with rfl | ⟨t, rfl⟩
  · exact Below.refl _ _
  · exact ⟨rfl, rfl, rfl, by rw [Lib.bytesWorld_size]; omega, fun j hj => Lib.bytesWorld_at_old w _ t j hj⟩
theorem atoi_no (s : List UInt8) (w : World) (h : ∀ v, Lib.atoiAll s ≠ .ok v) (hs : s.length ≤ 2000000) (hG : StrG w) :
    Calls Tryz.prog 98 #[.string ⟨s.toArray⟩] w fun e w' => ∃ n N, e = .returned (.tuple #[.int .i64 n, .iface 196 (.pointer (some ⟨N, 0, none⟩))]) ∧ Below w.heap.size w w' := by
  cases hc : Lib.atoiAll s
  · exact absurd hc (h _)
  · obtain ⟨tp, p, hv⟩ := hG.syn
    refine (Any.strconv_Atoi_syntax_var Tryz.laysC172 ⟨s.toArray⟩ (by rw [text_size]; omega) hc tp p w hv).mono ?_
    rintro e w' ⟨N, rfl, _, _, hb⟩
    exact ⟨_, N, rfl, hb⟩
  · obtain ⟨tp, p, hv⟩ := hG.ran
    refine (Tryz.strconv_Atoi_range_var ⟨s.toArray⟩ (by rw [text_size]; omega) hc tp p w hv).mono ?_
    rintro e w' ⟨N, rfl, _, _, hb⟩
    exact ⟨_, N, rfl, hb⟩
theorem itoa_any (v : Int) (w : World) (h0 : 0 ≤ v) (h1 : v ≤ 4611686018427387904) (hG : StrG w) :
    Calls Tryz.prog 99 #[.int .i64 v] w fun e w' => e = .returned (.string ⟨(Lib.itoa v).toArray⟩) ∧ Below w.heap.size w w' := by
  refine (Tryz.strconv_Itoa v (by omega) (by omega) w hG.tab).mono ?_
  rintro e w' ⟨rfl, k, os, rfl⟩
  refine ⟨rfl, rfl, rfl, rfl, ?_, ?_⟩
  · simp [grow]
  · intro j hj
    show (w.heap ++ os)[j]? = w.heap[j]?
    exact Array.getElem?_append_left hj
end Go.Proofs.YtcahhnjponeeeaaGreatDoor
namespace Go.Proofs.YtcahhnjponeeeaaGreatDoor
open Go.RowKit Go.Shelf Go.Sort
set_option linter.unusedSimpArgs false
/-- the world behind SplitSeq: three boxes -/
abbrev splitW (w : World) (S : Txt) : World := ((w.alloc (.cells #[.string ⟨S.toArray⟩] 9)).alloc (.cells #[.string ⟨#[44]⟩] 9)).alloc (.cells #[.int .i64 0] 3)
set_option maxRecDepth 100000 in
set_option maxHeartbeats 2000000 in
theorem splitSeq_any (S : Txt) (w : World) : Calls Tryz.prog 128 #[.string ⟨S.toArray⟩, .string ⟨#[44]⟩] w fun e w' => e = .returned (.func (.func 157) #[] #[.pointer (some ⟨w.heap.size + 1, 0, none⟩), .pointer (some ⟨w.heap.size, 0, none⟩), .pointer (some ⟨w.heap.size + 2, 0, none⟩)]) ∧ w' = splitW w S := by
  have c1 : Calls Tryz.prog 146 #[.string ⟨S.toArray⟩, .string ⟨#[44]⟩, .int .i64 0] w fun e w' => e = .returned (.func (.func 157) #[] #[.pointer (some ⟨w.heap.size + 1, 0, none⟩), .pointer (some ⟨w.heap.size, 0, none⟩), .pointer (some ⟨w.heap.size + 2, 0, none⟩)]) ∧ w' = splitW w S := by
    have hmf : ∀ (fn : Fn) (first cap : Array Value) (w : World), (Instr.makeFunc fn first cap).run Tryz.prog w = .ok (.func fn first cap) w := fun _ _ _ _ => rfl
    go_enter Tryz.func146, Tryz.ntmps146
    go_wp2_with fail
    go_ret
    exact ⟨rfl, rfl⟩
  go_enter Tryz.func128, Tryz.ntmps128
  go_wp2_with (go_at_call 146; go_loud (((with_reducible refine c1.mono ?_); rintro e w1 ⟨rfl, rfl⟩)))
  go_ret
  exact ⟨rfl, rfl⟩
theorem splitW_at (w : World) (S : Txt) (M : Nat) (h : ∃ m, w.cell? ⟨M, 0, none⟩ = some (.int .i64 m)) : SplitW w.heap.size M S (splitW w S) := by
  have s1 := alloc_size w (.cells #[.string ⟨S.toArray⟩] 9)
  have s2 := alloc_size (w.alloc (.cells #[.string ⟨S.toArray⟩] 9)) (.cells #[.string ⟨#[44]⟩] 9)
  have h1 := World.heap_alloc_new w (.cells #[.string ⟨S.toArray⟩] 9)
  have h2 := World.heap_alloc_new (w.alloc (.cells #[.string ⟨S.toArray⟩] 9)) (.cells #[.string ⟨#[44]⟩] 9)
  have h3 := World.heap_alloc_new ((w.alloc (.cells #[.string ⟨S.toArray⟩] 9)).alloc (.cells #[.string ⟨#[44]⟩] 9)) (.cells #[.int .i64 0] 3)
  rw [s1] at h2
  rw [s2, s1] at h3
  obtain ⟨m, hm⟩ := h
  exact ⟨alloc_same (alloc_same h1), alloc_same h2, h3, m, ((((Below.refl _ w).alloc (Nat.le_refl _) _).alloc (by rw [s1]; omega) _).alloc (by rw [s2, s1]; omega) _).cell (p := ⟨M, 0, none⟩) (World.block_lt_of_cell? _ _ hm) |>.trans hm⟩
/-- what number returns: some number (what it is matters where it is one), and whether it is one -/
def NumR (s : Txt) (w : World) (e : Ending) (w' : World) : Prop := ∃ v : Int, e = .returned (.tuple #[.int .i64 v, .bool (numS s).isSome]) ∧ (∀ x, numS s = some x → v = x) ∧ Below w.heap.size w w'
theorem NumR.yes {s : Txt} {v : Int} {w w' : World} {e : Ending} (h : numS s = some v) (he : e = .returned (.tuple #[.int .i64 v, .bool true])) (hb : Below w.heap.size w w') : NumR s w e w' := ⟨v, by rw [h]; exact he, (fun x hx => by rw [h] at hx; exact Option.some.inj hx), hb⟩
theorem NumR.no {s : Txt} {v : Int} {w w' : World} {e : Ending} (h : numS s = none) (he : e = .returned (.tuple #[.int .i64 v, .bool false])) (hb : Below w.heap.size w w') : NumR s w e w' := ⟨v, by rw [h]; exact he, (fun x hx => by rw [h] at hx; cases hx), hb⟩
set_option maxRecDepth 100000 in
set_option maxHeartbeats 4000000 in
theorem number_any (s : Txt) (w : World) (hs : s.length ≤ 2000000) (hG : StrG w) :
    Calls Tryz.prog 129 #[.string ⟨s.toArray⟩] w (NumR s w) := by
  by_cases h42 : s = [42]
  · subst h42
    have hb : ((⟨[42].toArray⟩ : ByteArray) == ⟨#[42]⟩) = true := by decide
    go_enter Tryz.func129, Tryz.ntmps129
    go_wp2_with fail
    go_ret2
    exact NumR.yes rfl rfl (Below.refl _ _)
  have hsb : (s == [42]) = false := by simpa using h42
  have hn : numS s = match Lib.atoiAll s with | .ok v => oneF s v | _ => none := by unfold numS; rw [if_neg h42]; rfl
  cases ha : Lib.atoiAll s with
  | ok v =>
    rw [ha] at hn
    dsimp only at hn
    have cA := atoi_yes s v w ha hs
    unfold oneF at hn
    clear ha h42
    by_cases h1 : 1 ≤ v
    · by_cases h2 : v ≤ 2147483647
      · have cI := fun W hW => itoa_any v W (by omega) (by omega) hW
        obtain ⟨D, hD⟩ : ∃ D, Lib.itoa v = D := ⟨_, rfl⟩
        rw [hD] at cI hn
        by_cases h3 : D = s
        · subst h3
          have HN : Hid (numS D = some v) := Lib.hid (by rw [hn, if_pos ⟨h1, h2, rfl⟩])
          clear hn hD
          go_enter Tryz.func129, Tryz.ntmps129
          go_wp2_with (first
            | (go_at_call 98; go_loud (((with_reducible refine cA.mono ?_); rintro e w1 ⟨rfl, y1⟩; have cI1 := cI w1 (hG.below y1))))
            | (go_at_call 99; go_loud (((with_reducible refine cI1.mono ?_); rintro e w2 ⟨rfl, y2⟩))))
          go_ret2
          exact NumR.yes HN.out rfl (y1.trans (y2.mono y1.size))
        · have hDs : (D == s) = false := by simpa using h3
          have HN : Hid (numS s = none) := Lib.hid (by rw [hn, if_neg (fun h => h3 h.2.2)])
          clear hn hD h3
          go_enter Tryz.func129, Tryz.ntmps129
          go_wp2_with (first
            | (go_at_call 98; go_loud (((with_reducible refine cA.mono ?_); rintro e w1 ⟨rfl, y1⟩; have cI1 := cI w1 (hG.below y1))))
            | (go_at_call 99; go_loud (((with_reducible refine cI1.mono ?_); rintro e w2 ⟨rfl, y2⟩))))
          go_ret2
          exact NumR.no HN.out rfl (y1.trans (y2.mono y1.size))
      · have HN : Hid (numS s = none) := Lib.hid (by rw [hn, if_neg (fun h => h2 h.2.1)])
        clear hn
        go_enter Tryz.func129, Tryz.ntmps129
        go_wp2_with (go_at_call 98; go_loud (((with_reducible refine cA.mono ?_); rintro e w1 ⟨rfl, y1⟩)))
        go_ret2
        exact NumR.no HN.out rfl y1
    · have HN : Hid (numS s = none) := Lib.hid (by rw [hn, if_neg (fun h => h1 h.1)])
      clear hn
      go_enter Tryz.func129, Tryz.ntmps129
      go_wp2_with (go_at_call 98; go_loud (((with_reducible refine cA.mono ?_); rintro e w1 ⟨rfl, y1⟩)))
      go_ret2
      exact NumR.no HN.out rfl y1
  | _ =>
    rw [ha] at hn
    have HN : Hid (numS s = none) := Lib.hid hn
    have cA := atoi_no s w (fun v => by rw [ha]; intro h; cases h) hs hG
    clear hn ha h42
    go_enter Tryz.func129, Tryz.ntmps129
    go_wp2_with (go_at_call 98; go_loud (((with_reducible refine cA.mono ?_); rintro e w1 ⟨n, N, rfl, y1⟩)))
    go_ret2
    exact NumR.no HN.out rfl y1
end Go.Proofs.YtcahhnjponeeeaaGreatDoor
