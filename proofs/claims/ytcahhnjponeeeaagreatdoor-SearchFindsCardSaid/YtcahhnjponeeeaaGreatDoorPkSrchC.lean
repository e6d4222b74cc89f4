/- The walks over the small parts of search's parser: fail, word; how words lie in memory. No condition beyond those each names. The walks over search's parser: number, flag, set. Conditions: flags.system, strconv's table of powers and its two errors, bytealg.MaxLen and the handle of error lie as the program's text lays them. The walks over search's ofSystem, ofNumber, not; head.Great and head.Small at lists. Conditions: flags.system lies as the program's text lays it. -/
import Derived.WalkLawsBesides
import Derived.Deep.QuietTactic
import Derived.BigQuiet
import Derived.Test.YtcahhnjponeeeaaGreatDoorPkPSearch3
import Derived.Test.YtcahhnjponeeeaaGreatDoorPkKept
import Derived.Test.YtcahhnjponeeeaaGreatDoorPkSeqC
import Derived.Test.YtcahhnjponeeeaaGreatDoorPkFlagD
import Derived.Test.YtcahhnjponeeeaaGreatDoorPkTell
import Derived.Test.YtcahhnjponeeeaaGreatDoorPkAny
import Derived.Test.YtcahhnjponeeeaaGreatDoorPkSeqB
namespace Go.Proofs.YtcahhnjponeeeaaGreatDoor
open Go.RowKit Go.Shelf Go.Sort
set_option linter.unusedSimpArgs false
/-- a slice value that reads as a list of words, in blocks below B; each text is short enough -/
inductive ReadsK (W : World) (B : Nat) : Value → List Wd → Prop
  | mk (a : Option Addr) (cap : Nat) (l : List Wd) (vs : Nat → Value) : l.length ≤ cap → cap ≤ 9223372036854775807 →
      (∀ (j : Nat) (t : Wd), l[j]? = some t → ∃ g off, a = some ⟨g, off, none⟩ ∧ g < B ∧ W.cell? ⟨g, off + j * 3, none⟩ = some (.int .i64 t.kind) ∧ W.cell? ⟨g, off + j * 3 + 1, none⟩ = some (.string ⟨t.text.toArray⟩) ∧ W.cell? ⟨g, off + j * 3 + 2, none⟩ = some (vs j)) →
      (∀ (j : Nat) (t : Wd), l[j]? = some t → t.text.length ≤ 2000000) → (∀ (j : Nat) (t : Wd), l[j]? = some t → ReadsK W B (vs j) t.list) → ReadsK W B (.slice a l.length cap) l
theorem ReadsK.keep {W W' : World} {B : Nat} {v : Value} {l : List Wd} (h : ReadsK W B v l) (hk : ∀ j, j < B → W'.heap[j]? = W.heap[j]?) : ReadsK W' B v l := by
  induction h with
  | mk a cap l vs h1 h2 h3 h4 _ ih =>
    refine .mk a cap l vs h1 h2 (fun j t hj => ?_) h4 ih
    obtain ⟨g, off, e, hg, c0, c1, c2⟩ := h3 j t hj
    exact ⟨g, off, e, hg, (World.cell?_of_block (w := W) (a := ⟨g, off + j * 3, none⟩) (hk g hg)).trans c0, (World.cell?_of_block (w := W) (a := ⟨g, off + j * 3 + 1, none⟩) (hk g hg)).trans c1, (World.cell?_of_block (w := W) (a := ⟨g, off + j * 3 + 2, none⟩) (hk g hg)).trans c2⟩
theorem ReadsK.under {W W' : World} {B : Nat} {v : Value} {l : List Wd} (h : ReadsK W B v l) (hb : Below B W W') : ReadsK W' B v l := h.keep fun j hj => hb.block j hj
theorem ReadsK.kept {W W' : World} {B P : Nat} {v : Value} {l : List Wd} (h : ReadsK W B v l) (hb : Kept (fun k => k = P) W W') (hP : B ≤ P) (hB : B ≤ W.heap.size) : ReadsK W' B v l := h.keep fun j hj => hb.block j (by omega) (by omega)
theorem ReadsK.val {W : World} {B : Nat} {v : Value} {l : List Wd} (h : ReadsK W B v l) : ∃ a c, v = .slice a l.length c ∧ l.length ≤ c ∧ c ≤ 9223372036854775807 := by
  cases h with
  | mk a cap l vs h1 h2 => exact ⟨a, cap, rfl, h1, h2⟩
theorem readsK_none {W : World} {B : Nat} {a : Option Addr} {c : Nat} {l : List Wd} (h : l.length + 1 ≤ 1) (hc : c ≤ 9223372036854775807) : ReadsK W B (.slice a l.length c) l := by
  have : l = [] := List.eq_nil_of_length_eq_zero (by omega)
  subst this
  exact ReadsK.mk a c [] (fun _ => .nilIface) (Nat.zero_le _) hc (fun j t h => by simp at h) (fun j t h => by simp at h) (fun j t h => by simp at h)
theorem ReadsK.cons {W : World} {B : Nat} {a : Option Addr} {n c : Nat} {t : Wd} {l : List Wd} (h : ReadsK W B (.slice a n c) (t :: l)) : ∃ g off va vc, a = some ⟨g, off, none⟩ ∧ n = l.length + 1 ∧ l.length + 1 ≤ c ∧ c ≤ 9223372036854775807 ∧ g < B ∧ W.cell? ⟨g, off, none⟩ = some (.int .i64 t.kind) ∧ W.cell? ⟨g, off + 1, none⟩ = some (.string ⟨t.text.toArray⟩) ∧ W.cell? ⟨g, off + 2, none⟩ = some (.slice va t.list.length vc) ∧ t.text.length ≤ 2000000 ∧ ReadsK W B (.slice va t.list.length vc) t.list ∧ ReadsK W B (.slice (some ⟨g, off + 3, none⟩) l.length (c - 1)) l := by
  generalize hv : Value.slice a n c = v at h
  cases h with
  | mk a' cap l' vs h1 h2 h3 h4 h5 =>
    cases hv
    obtain ⟨g, off, rfl, hg, c0, c1, c2⟩ := h3 0 t rfl
    obtain ⟨va, vc, hv0, -, -⟩ := (h5 0 t rfl).val
    have h50 := h5 0 t rfl
    rw [hv0] at c2 h50
    refine ⟨g, off, va, vc, rfl, rfl, by simpa using h1, h2, hg, by simpa using c0, by simpa using c1, by simpa using c2, h4 0 t rfl, h50, ?_⟩
    refine .mk _ _ l (fun j => vs (j + 1)) (by simp at h1; omega) (by omega) (fun j u hj => ?_) (fun j u hj => h4 (j + 1) u (by simpa using hj)) (fun j u hj => h5 (j + 1) u (by simpa using hj))
    obtain ⟨g', off', e, hg', d0, d1, d2⟩ := h3 (j + 1) u (by simpa using hj)
    cases e
    rw [show off + (j + 1) * 3 = off + 3 + j * 3 by omega] at d0 d1 d2
    exact ⟨g, off + 3, rfl, hg, d0, d1, d2⟩
/-- a parser: the words that are left, how many keys were begun -/
def ParsK (w : World) (P : Nat) (v : Value) (n : Nat) : Prop := w.heap[P]? = some (.cells #[v, .int .i64 (n : Int)] 63 (0, 0))
theorem ParsK.lt {w : World} {P n : Nat} {v : Value} (h : ParsK w P v n) : P < w.heap.size := (Array.getElem?_eq_some_iff.1 h).1
theorem ParsK.below {w w' : World} {P n : Nat} {v : Value} (h : ParsK w P v n) (hb : Below w.heap.size w w') : ParsK w' P v n := below_same hb h
theorem set2_0 {w : World} {U : Nat} {a b u : Value} {t : TypeId} (h : w.heap[U]? = some (.cells #[a, b] t (0, 0))) : (w.setCell ⟨U, 0, none⟩ u).heap[U]? = some (.cells #[u, b] t (0, 0)) := by
  simp only [World.setCell, Array.getElem?_modify, if_pos, h]
  simp
theorem set2_1 {w : World} {U : Nat} {a b u : Value} {t : TypeId} (h : w.heap[U]? = some (.cells #[a, b] t (0, 0))) : (w.setCell ⟨U, 1, none⟩ u).heap[U]? = some (.cells #[a, u] t (0, 0)) := by
  simp only [World.setCell, Array.getElem?_modify, if_pos, h]
  simp
/-- what it means that the reading has failed: thrown with an error -/
def FailsK (P : Nat) (E : Nat) (w : World) (e : Ending) (w' : World) : Prop := e = .panicked [{ v := .iface 59 (.agg #[.int .i64 (E : Int)]), recovered := false }] ∧ Kept (fun k => k = P) w w'
theorem FailsK.from {P E : Nat} {w w1 w2 : World} {e : Ending} (h : FailsK P E w1 e w2) (hk : Kept (fun k => k = P) w w1) : FailsK P E w e w2 := ⟨h.1, hk.trans h.2⟩
set_option maxHeartbeats 1000000 in
theorem failK_any (E : Int) (w : World) : Calls Tryz.prog 74 #[.int .i64 E] w fun e w' => e = .panicked [{ v := .iface 59 (.agg #[.int .i64 E]), recovered := false }] ∧ w' = w := by
  go_enter Tryz.func74, Tryz.ntmps74
  go_wp2_with fail
  exact ⟨rfl, rfl, rfl⟩
/-- what word brings -/
def WordK (P n B : Nat) (l : List Wd) (w : World) (e : Ending) (w' : World) : Prop := match wordK l with
  | .error E => FailsK P E w e w'
  | .ok (s, l') => ∃ v, e = .returned (.string ⟨s.toArray⟩) ∧ s.length ≤ 2000000 ∧ ReadsK w' B v l' ∧ ParsK w' P v n ∧ Kept (fun k => k = P) w w'
set_option maxRecDepth 100000 in
set_option maxHeartbeats 4000000 in
theorem wordK_any (P n B : Nat) (v : Value) (l : List Wd) (w : World) (hP : ParsK w P v n) (hv : ReadsK w B v l) (hB : B ≤ P) :
    Calls Tryz.prog 75 #[.pointer (some ⟨P, 0, none⟩)] w (WordK P n B l w) := by
  have cF : ∀ W : World, Calls Tryz.prog 74 #[.int .i64 3] W fun e w' => e = .panicked [{ v := .iface 59 (.agg #[.int .i64 3]), recovered := false }] ∧ w' = W := fun W => failK_any 3 W
  obtain ⟨c0, c1⟩ := two_cells hP
  have f0 := Lib.frozen_of_heap hP 0
  obtain ⟨a, c, rfl, hlc, hcm⟩ := hv.val
  cases l with
  | nil =>
    have e1 : decide (((([] : List Wd).length : Nat) : Int) = 0) = true := by decide
    clear hv hlc
    go_enter Tryz.func75, Tryz.ntmps75
    go_wp2_with ((go_at_call 74; go_loud (((with_reducible refine (cF _).mono ?_); rintro e w1 ⟨rfl, hw⟩; rw [hw]; clear hw))))
    exact ⟨rfl, rfl, Kept.refl _ _⟩
  | cons t l =>
    obtain ⟨g, off, va, vc, rfl, -, hc1, hc2, hg, x0, x1, x2, ht, hl1, hl2⟩ := hv.cons
    have hlen : (t :: l).length = l.length + 1 := rfl
    rw [hlen] at *
    have hP2 := hP
    by_cases hk : t.kind = 3
    · have e : wordK (t :: l) = .error 3 := by rw [wordK, if_pos hk]
      rw [hk] at x0
      have HE := Lib.hid e
      clear e hv hl1 hl2 x1 x2 hk hlen ht
      go_enter Tryz.func75, Tryz.ntmps75
      go_wp2_with ((go_at_call 74; go_loud (((with_reducible refine (cF _).mono ?_); rintro e w1 ⟨rfl, hw⟩; rw [hw]; clear hw))))
      unfold WordK
      rw [HE.out]
      exact ⟨rfl, rfl, Kept.refl _ _⟩
    · have e : wordK (t :: l) = .ok (t.text, l) := by rw [wordK, if_neg hk]
      have hkd : decide (t.kind = 3) = false := decide_eq_false hk
      have hkb : (t.kind == 3) = false := by rw [beq_eq_false_iff_ne]; exact hk
      have HE := Lib.hid e
      have HT := Lib.hid ht
      have HL := Lib.hid hl2
      have HP := Lib.hid hP
      clear e hv hl1 hl2 x2 hlen ht
      go_enter Tryz.func75, Tryz.ntmps75
      go_wp2_with fail
      all_goals
        go_ret
        unfold WordK
        rw [HE.out]
        refine ⟨_, rfl, HT.out, ?_, set2_0 HP.out, (Kept.refl _ _).setB _⟩
        first
          | exact (HL.out.kept ((Kept.refl _ _).setB _) hB (by have := HP.out.lt; omega))
          | exact readsK_none (by omega) (by omega)
end Go.Proofs.YtcahhnjponeeeaaGreatDoor
namespace Go.Proofs.YtcahhnjponeeeaaGreatDoor
open Go.RowKit Go.Shelf Go.Sort
set_option linter.unusedSimpArgs false
structure SrG (w : World) : Prop where
  flag : FlagG w
  str : StrG w
  max : MaxG w
  err : ErrTy w
theorem SrG.below {w w' : World} (h : SrG w) (hb : Below w.heap.size w w') : SrG w' := ⟨by obtain ⟨T, hT⟩ := h.flag; exact ⟨T, below_same hb hT⟩, h.str.below hb, h.max.below hb, errTy_below h.err hb⟩
/-- what holds between the parser's calls: w0 is the world in which Parse began -/
structure StK (w0 : World) (P n : Nat) (v : Value) (l : List Wd) (w : World) : Prop where
  base : Below w0.heap.size w0 w
  low : w0.heap.size ≤ P
  pars : ParsK w P v n
  words : ReadsK w w0.heap.size v l
theorem StK.glob {w0 w : World} {P n : Nat} {v : Value} {l : List Wd} (h : StK w0 P n v l w) (hG : SrG w0) : SrG w := hG.below h.base
theorem StK.under {w0 w w' : World} {P n : Nat} {v : Value} {l : List Wd} (h : StK w0 P n v l w) (hb : Below w.heap.size w w') : StK w0 P n v l w' :=
  ⟨h.base.trans (hb.mono h.base.size), h.low, h.pars.below hb, h.words.under (hb.mono h.base.size)⟩
theorem StK.next {w0 w w' : World} {P n n' : Nat} {v v' : Value} {l l' : List Wd} (h : StK w0 P n v l w) (hk : Kept (fun k => k = P) w w') (hp : ParsK w' P v' n') (hr : ReadsK w' w0.heap.size v' l') : StK w0 P n' v' l' w' :=
  ⟨h.base.trans (hk.below h.base.size (fun k e => by have := h.low; omega)), h.low, hp, hr⟩
/-- what word brings, as a state -/
def WordS (w0 : World) (P n : Nat) (l : List Wd) (w : World) (e : Ending) (w' : World) : Prop := match wordK l with
  | .error E => FailsK P E w e w'
  | .ok (s, l') => ∃ v, e = .returned (.string ⟨s.toArray⟩) ∧ s.length ≤ 2000000 ∧ StK w0 P n v l' w' ∧ Kept (fun k => k = P) w w'
theorem word_st {w0 w : World} {P n : Nat} {v : Value} {l : List Wd} (h : StK w0 P n v l w) : Calls Tryz.prog 75 #[.pointer (some ⟨P, 0, none⟩)] w (WordS w0 P n l w) := by
  refine (wordK_any P n w0.heap.size v l w h.pars h.words h.low).mono fun e w' h1 => ?_
  unfold WordK at h1
  unfold WordS
  cases hw : wordK l with
  | error E => rw [hw] at h1; exact h1
  | ok x =>
    obtain ⟨s, l'⟩ := x
    rw [hw] at h1
    obtain ⟨v', e1, e2, e3, e4, e5⟩ := h1
    exact ⟨v', e1, e2, h.next e5 e4 e3, e5⟩
theorem kept_of {P : Nat} {w w1 w2 : World} (h : Kept (fun k => k = P) w w1) (hb : Below w1.heap.size w1 w2) : Kept (fun k => k = P) w w2 := h.trans (kept_below hb)
/-- what number brings -/
def NumbS (w0 : World) (P n : Nat) (l : List Wd) (w : World) (e : Ending) (w' : World) : Prop := match numberK l with
  | .error E => FailsK P E w e w'
  | .ok (x, l') => ∃ v, e = .returned (.int .i64 x) ∧ StK w0 P n v l' w' ∧ Kept (fun k => k = P) w w'
theorem numbS_bad {w0 : World} {P n E : Nat} {l : List Wd} {w : World} {e : Ending} {w' : World} (h : numberK l = .error E) (hf : FailsK P E w e w') : NumbS w0 P n l w e w' := by unfold NumbS; rw [h]; exact hf
theorem numbS_ok {w0 : World} {P n : Nat} {l l' : List Wd} {x : Int} {w : World} {e : Ending} {w' : World} {v : Value} (h : numberK l = .ok (x, l')) (he : e = .returned (.int .i64 x)) (hs : StK w0 P n v l' w') (hk : Kept (fun k => k = P) w w') : NumbS w0 P n l w e w' := by unfold NumbS; rw [h]; exact ⟨v, he, hs, hk⟩
set_option maxRecDepth 100000 in
set_option maxHeartbeats 8000000 in
theorem number_st {w0 w : World} {P n : Nat} {v : Value} {l : List Wd} (h : StK w0 P n v l w) (hG : SrG w0) : Calls Tryz.prog 80 #[.pointer (some ⟨P, 0, none⟩)] w (NumbS w0 P n l w) := by
  have cF : ∀ W : World, Calls Tryz.prog 74 #[.int .i64 3] W fun e w' => e = .panicked [{ v := .iface 59 (.agg #[.int .i64 3]), recovered := false }] ∧ w' = W := fun W => failK_any 3 W
  have cW := word_st h
  unfold WordS at cW
  cases hw : wordK l with
  | error E =>
    have HN : Hid (numberK l = .error E) := Lib.hid (by unfold numberK; rw [hw])
    rw [hw] at cW
    clear hw h hG
    go_enter Tryz.func80, Tryz.ntmps80
    go_wp2_with ((go_at_call 75; go_loud (((with_reducible refine cW.mono ?_); rintro e w1 h1; obtain ⟨rfl, hk⟩ := h1))))
    exact ⟨rfl, numbS_bad HN.out ⟨rfl, hk⟩⟩
  | ok x =>
    obtain ⟨s, l'⟩ := x
    rw [hw] at cW
    have HG := Lib.hid hG
    have cA : s.length ≤ 2000000 → ∀ W, StrG W → (∃ x, Lib.atoiAll s = .ok x ∧ Calls Tryz.prog 98 #[.string ⟨s.toArray⟩] W fun e w' => e = .returned (.tuple #[.int .i64 x, .nilIface]) ∧ Below W.heap.size W w') ∨ ((∀ x, Lib.atoiAll s ≠ .ok x) ∧ Calls Tryz.prog 98 #[.string ⟨s.toArray⟩] W fun e w' => ∃ n N, e = .returned (.tuple #[.int .i64 n, .iface 196 (.pointer (some ⟨N, 0, none⟩))]) ∧ Below W.heap.size W w') := fun hs W hW => by
      by_cases hx : ∃ x, Lib.atoiAll s = .ok x
      · obtain ⟨x, hx⟩ := hx
        exact Or.inl ⟨x, hx, atoi_yes s x W hx hs⟩
      · exact Or.inr ⟨fun x e => hx ⟨x, e⟩, atoi_no s W (fun x e => hx ⟨x, e⟩) hs hW⟩
    have hN : numberK l = match numK s with | some v => .ok (v, l') | none => .error 3 := by unfold numberK; rw [hw]; rfl
    unfold numK at hN
    by_cases hx : ∃ x, Lib.atoiAll s = .ok x
    · obtain ⟨x, hx⟩ := hx
      rw [hx] at hN
      have cA1 := fun (hs : s.length ≤ 2000000) W => atoi_yes s x W hx hs
      simp only at hN
      clear cA hw h hG hx
      by_cases h1 : x < 0
      · have HN : Hid (numberK l = .error 3) := Lib.hid (by rw [hN, if_neg (by omega)])
        clear hN
        go_enter Tryz.func80, Tryz.ntmps80
        go_wp2_with (first
          | (go_at_call 75; go_loud (((with_reducible refine cW.mono ?_); rintro e w1 h1; obtain ⟨v1, rfl, hs, st1, hk1⟩ := h1; have cA2 := cA1 hs w1)))
          | (go_at_call 98; go_loud (((with_reducible refine cA2.mono ?_); rintro e w2 ⟨rfl, y2⟩)))
          | (go_at_call 74; go_loud (((with_reducible refine (cF _).mono ?_); rintro e w3 ⟨rfl, hw3⟩; rw [hw3]; clear hw3))))
        exact ⟨rfl, numbS_bad HN.out ⟨rfl, kept_of hk1 y2⟩⟩
      · have h1d : decide (x < 0) = false := decide_eq_false h1
        by_cases h2 : 2147483647 < x
        · have HN : Hid (numberK l = .error 3) := Lib.hid (by rw [hN, if_neg (by omega)])
          clear hN
          go_enter Tryz.func80, Tryz.ntmps80
          go_wp2_with (first
            | (go_at_call 75; go_loud (((with_reducible refine cW.mono ?_); rintro e w1 h1; obtain ⟨v1, rfl, hs, st1, hk1⟩ := h1; have cA2 := cA1 hs w1)))
            | (go_at_call 98; go_loud (((with_reducible refine cA2.mono ?_); rintro e w2 ⟨rfl, y2⟩)))
            | (go_at_call 74; go_loud (((with_reducible refine (cF _).mono ?_); rintro e w3 ⟨rfl, hw3⟩; rw [hw3]; clear hw3))))
          exact ⟨rfl, numbS_bad HN.out ⟨rfl, kept_of hk1 y2⟩⟩
        · have cI := fun W hW => itoa_any x W (by omega) (by omega) hW
          obtain ⟨D, hD⟩ : ∃ D, Lib.itoa x = D := ⟨_, rfl⟩
          rw [hD] at cI hN
          have h2d : decide (2147483647 < x) = false := decide_eq_false h2
          by_cases h3 : D = s
          · subst h3
            have HN : Hid (numberK l = .ok (x, l')) := Lib.hid (by rw [hN, if_pos ⟨by omega, by omega, rfl⟩])
            clear hN hD
            go_enter Tryz.func80, Tryz.ntmps80
            go_wp2_with (first
              | (go_at_call 75; go_loud (((with_reducible refine cW.mono ?_); rintro e w1 h1; obtain ⟨v1, rfl, hs, st1, hk1⟩ := h1; have cA2 := cA1 hs w1)))
              | (go_at_call 98; go_loud (((with_reducible refine cA2.mono ?_); rintro e w2 ⟨rfl, y2⟩; have st2 := st1.under y2; have cI1 := cI w2 (st2.glob HG.out).str)))
              | (go_at_call 99; go_loud (((with_reducible refine cI1.mono ?_); rintro e w3 ⟨rfl, y3⟩; have st3 := st2.under y3))))
            go_ret
            exact numbS_ok HN.out rfl st3 (kept_of (kept_of hk1 y2) y3)
          · have hDs : (D == s) = false := by simpa using h3
            have HN : Hid (numberK l = .error 3) := Lib.hid (by rw [hN, if_neg (fun h => h3 h.2.2)])
            clear hN hD h3
            go_enter Tryz.func80, Tryz.ntmps80
            go_wp2_with (first
              | (go_at_call 75; go_loud (((with_reducible refine cW.mono ?_); rintro e w1 h1; obtain ⟨v1, rfl, hs, st1, hk1⟩ := h1; have cA2 := cA1 hs w1)))
              | (go_at_call 98; go_loud (((with_reducible refine cA2.mono ?_); rintro e w2 ⟨rfl, y2⟩; have st2 := st1.under y2; have cI1 := cI w2 (st2.glob HG.out).str)))
              | (go_at_call 99; go_loud (((with_reducible refine cI1.mono ?_); rintro e w3 ⟨rfl, y3⟩; have st3 := st2.under y3)))
              | (go_at_call 74; go_loud (((with_reducible refine (cF _).mono ?_); rintro e w4 ⟨rfl, hw4⟩; rw [hw4]; clear hw4))))
            exact ⟨rfl, numbS_bad HN.out ⟨rfl, kept_of (kept_of hk1 y2) y3⟩⟩
    · have HN : Hid (numberK l = .error 3) := Lib.hid (by
        rw [hN]
        cases ha : Lib.atoiAll s with
        | ok v => exact absurd ⟨v, ha⟩ hx
        | _ => rfl)
      have cA1 := fun (hs : s.length ≤ 2000000) W hW => atoi_no s W (fun v e => hx ⟨v, e⟩) hs hW
      clear hN cA hw h hG hx
      go_enter Tryz.func80, Tryz.ntmps80
      go_wp2_with (first
        | (go_at_call 75; go_loud (((with_reducible refine cW.mono ?_); rintro e w1 h1; obtain ⟨v1, rfl, hs, st1, hk1⟩ := h1; have cA2 := cA1 hs w1 (st1.glob HG.out).str)))
        | (go_at_call 98; go_loud (((with_reducible refine cA2.mono ?_); rintro e w2 ⟨x, N, rfl, y2⟩)))
        | (go_at_call 74; go_loud (((with_reducible refine (cF _).mono ?_); rintro e w3 ⟨rfl, hw3⟩; rw [hw3]; clear hw3))))
      exact ⟨rfl, numbS_bad HN.out ⟨rfl, kept_of hk1 y2⟩⟩
/-- what flag brings -/
def FlagS (w0 : World) (P n : Nat) (l : List Wd) (w : World) (e : Ending) (w' : World) : Prop := match flagK l with
  | .error E => FailsK P E w e w'
  | .ok (s, l') => ∃ v, e = .returned (.string ⟨s.toArray⟩) ∧ StK w0 P n v l' w' ∧ Kept (fun k => k = P) w w'
theorem flagS_bad {w0 : World} {P n E : Nat} {l : List Wd} {w : World} {e : Ending} {w' : World} (h : flagK l = .error E) (hf : FailsK P E w e w') : FlagS w0 P n l w e w' := by unfold FlagS; rw [h]; exact hf
theorem flagS_ok {w0 : World} {P n : Nat} {l l' : List Wd} {s : List UInt8} {w : World} {e : Ending} {w' : World} {v : Value} (h : flagK l = .ok (s, l')) (he : e = .returned (.string ⟨s.toArray⟩)) (hs : StK w0 P n v l' w') (hk : Kept (fun k => k = P) w w') : FlagS w0 P n l w e w' := by unfold FlagS; rw [h]; exact ⟨v, he, hs, hk⟩
set_option maxRecDepth 100000 in
set_option maxHeartbeats 8000000 in
theorem flag_st {w0 w : World} {P n : Nat} {v : Value} {l : List Wd} (h : StK w0 P n v l w) (hG : SrG w0) : Calls Tryz.prog 81 #[.pointer (some ⟨P, 0, none⟩)] w (FlagS w0 P n l w) := by
  have cW := word_st h
  unfold WordS at cW
  cases hw : wordK l with
  | error E =>
    have HN : Hid (flagK l = .error E) := Lib.hid (by unfold flagK; rw [hw])
    rw [hw] at cW
    clear hw h hG
    go_enter Tryz.func81, Tryz.ntmps81
    go_wp2_with ((go_at_call 75; go_loud (((with_reducible refine cW.mono ?_); rintro e w1 h1; obtain ⟨rfl, hk⟩ := h1))))
    exact ⟨rfl, flagS_bad HN.out ⟨rfl, hk⟩⟩
  | ok x =>
    obtain ⟨s, l'⟩ := x
    rw [hw] at cW
    have HG := Lib.hid hG
    have hN : flagK l = match nameF s with | .inr t => .ok (t, l') | .inl e => .error e := by unfold flagK; rw [hw]; rfl
    have cN := fun W (hs : s.length ≤ 2000000) hW => fname_any s W hs hW
    cases hn : nameF s with
    | inl E =>
      rw [hn] at hN cN
      have HN : Hid (flagK l = .error E) := Lib.hid hN
      have cN : ∀ W, s.length ≤ 2000000 → FlagG W → Calls Tryz.prog 103 #[.string ⟨s.toArray⟩] W fun e w' => e = .returned (.tuple #[.string ⟨#[]⟩, .iface 33 (.int .i64 (E : Int))]) ∧ Below W.heap.size W w' := cN
      have cF := fun W => failK_any (E : Int) W
      clear hw h hG hN hn
      go_enter Tryz.func81, Tryz.ntmps81
      go_wp2_with (first
        | (go_at_call 75; go_loud (((with_reducible refine cW.mono ?_); rintro e w1 h1; obtain ⟨v1, rfl, hs, st1, hk1⟩ := h1; have cN1 := cN w1 hs (st1.glob HG.out).flag)))
        | (go_at_call 103; go_loud (((with_reducible refine cN1.mono ?_); rintro e w2 ⟨rfl, y2⟩; have cT := tell_errno (E : Int) w2 ((st1.under y2).glob HG.out).err)))
        | (go_at_call 83; go_loud (((with_reducible refine cT.mono ?_); rintro e w3 ⟨rfl, y3⟩)))
        | (go_at_call 74; go_loud (((with_reducible refine (cF _).mono ?_); rintro e w4 ⟨rfl, hw4⟩; rw [hw4]; clear hw4))))
      exact ⟨rfl, flagS_bad HN.out ⟨rfl, kept_of (kept_of hk1 y2) y3⟩⟩
    | inr t =>
      rw [hn] at hN cN
      have HN : Hid (flagK l = .ok (t, l')) := Lib.hid hN
      have cN : ∀ W, s.length ≤ 2000000 → FlagG W → Calls Tryz.prog 103 #[.string ⟨s.toArray⟩] W fun e w' => e = .returned (.tuple #[.string ⟨t.toArray⟩, .nilIface]) ∧ Below W.heap.size W w' := cN
      clear hw h hG hN hn
      go_enter Tryz.func81, Tryz.ntmps81
      go_wp2_with (first
        | (go_at_call 75; go_loud (((with_reducible refine cW.mono ?_); rintro e w1 h1; obtain ⟨v1, rfl, hs, st1, hk1⟩ := h1; have cN1 := cN w1 hs (st1.glob HG.out).flag)))
        | (go_at_call 103; go_loud (((with_reducible refine cN1.mono ?_); rintro e w2 ⟨rfl, y2⟩))))
      go_ret
      exact flagS_ok HN.out rfl (st1.under y2) (kept_of hk1 y2)
/-- what set brings, of a text -/
def SetS (S : List UInt8) (P : Nat) (w : World) (e : Ending) (w' : World) : Prop := match parseS S with
  | .error E => FailsK P E w e w'
  | .ok r => ∃ v, e = .returned v ∧ RgRow w' v r ∧ (∀ g, v.ownBlock = some g → w.heap.size ≤ g) ∧ Below w.heap.size w w'
theorem setS_bad {S : List UInt8} {P E : Nat} {w : World} {e : Ending} {w' : World} (h : parseS S = .error E) (hf : FailsK P E w e w') : SetS S P w e w' := by unfold SetS; rw [h]; exact hf
theorem setS_ok {S : List UInt8} {P : Nat} {r : List Rg} {w : World} {e : Ending} {w' : World} (h : parseS S = .ok r) {v : Value} (he : e = .returned v) (hr : RgRow w' v r) (hv : ∀ g, v.ownBlock = some g → w.heap.size ≤ g) (hb : Below w.heap.size w w') : SetS S P w e w' := by unfold SetS; rw [h]; exact ⟨v, he, hr, hv, hb⟩
set_option maxRecDepth 100000 in
set_option maxHeartbeats 8000000 in
theorem set_st (S : List UInt8) (P : Nat) (w : World) (hS : S.length ≤ 2000000) (hG : SrG w) : Calls Tryz.prog 82 #[.pointer (some ⟨P, 0, none⟩), .string ⟨S.toArray⟩] w (SetS S P w) := by
  have cP := parse_any S w hS hG.str hG.max
  unfold ParR at cP
  cases hp : parseS S with
  | error E =>
    rw [hp] at cP
    have HP := Lib.hid hp
    have HG := Lib.hid hG
    have cF := fun W => failK_any (E : Int) W
    clear hG hp
    go_enter Tryz.func82, Tryz.ntmps82
    go_wp2_with (first
      | (go_at_call 104; go_loud (((with_reducible refine cP.mono ?_); rintro e w2 ⟨rfl, y2⟩; have cT := tell_errno (E : Int) w2 (HG.out.below y2).err)))
      | (go_at_call 83; go_loud (((with_reducible refine cT.mono ?_); rintro e w3 ⟨rfl, y3⟩)))
      | (go_at_call 74; go_loud (((with_reducible refine (cF _).mono ?_); rintro e w4 ⟨rfl, hw4⟩; rw [hw4]; clear hw4))))
    exact ⟨rfl, setS_bad HP.out ⟨rfl, kept_below (y2.trans (y3.mono y2.size))⟩⟩
  | ok r =>
    rw [hp] at cP
    have HP := Lib.hid hp
    clear hG hp
    go_enter Tryz.func82, Tryz.ntmps82
    go_wp2_with ((go_at_call 104; go_loud (((with_reducible refine cP.mono ?_); rintro e w2 h2; obtain ⟨u, rfl, ho, hl, y2⟩ := h2))))
    go_ret
    exact setS_ok HP.out rfl (rg_of_owns ho) (fun g hg => (ho.lt g hg).1) y2
end Go.Proofs.YtcahhnjponeeeaaGreatDoor
namespace Go.Proofs.YtcahhnjponeeeaaGreatDoor
open Go.RowKit Go.Shelf Go.Sort
set_option linter.unusedSimpArgs false
theorem great_l (S : List UInt8) (w : World) (hs : S.length ≤ 2000000) : Calls Tryz.prog 76 #[.string ⟨S.toArray⟩] w fun e w' => e = .returned (.string ⟨(greatL S).toArray⟩) ∧ Below w.heap.size w w' := by
  have := great_any ⟨S.toArray⟩ w (by rw [text_size]; omega)
  simpa using this
theorem small_l (S : List UInt8) (w : World) (hs : S.length ≤ 2000000) : Calls Tryz.prog 24 #[.string ⟨S.toArray⟩] w fun e w' => e = .returned (.string ⟨(smallL S).toArray⟩) ∧ Below w.heap.size w w' := by
  have := small_any ⟨S.toArray⟩ w (by rw [text_size]; omega)
  simpa using this
/-- what ofSystem brings -/
def sysV : Option (List UInt8 × Bool) → Value
  | none => .tuple #[.string ⟨#[]⟩, .bool false, .bool false]
  | some (t, u) => .tuple #[.string ⟨t.toArray⟩, .bool u, .bool true]
theorem cut_un (S : List UInt8) : Lib.trimPrefix S [85, 78] = (unK S).1 ∧ Lib.hasPrefix S [85, 78] = (unK S).2 := by
  unfold unK Lib.trimPrefix
  cases h : Lib.hasPrefix S [85, 78] with
  | true => exact ⟨rfl, rfl⟩
  | false => exact ⟨rfl, rfl⟩
theorem sysK_at (S : List UInt8) (T N : List UInt8) (h : (unK S).1 = T) (hT : T ∈ wordsL) (hN : namesL.getD (wordsL.idxOf T) [] = N) : sysK S = some (N, (unK S).2) := by
  unfold sysK
  rw [h, if_pos hT, hN]
set_option maxRecDepth 100000 in
set_option maxHeartbeats 8000000 in
theorem ofSystem_any (S : List UInt8) (w : World) (hs : S.length ≤ 2000000) (hG : FlagG w) : Calls Tryz.prog 77 #[.string ⟨S.toArray⟩] w fun e w' => e = .returned (sysV (sysK S)) ∧ Below w.heap.size w w' := by
  have cC := fun W => Tryz.strings_CutPrefix ⟨S.toArray⟩ ⟨#[85, 78]⟩ W
  obtain ⟨e1, e2⟩ := cut_un S
  have cC : ∀ W, Calls Tryz.prog 102 #[.string ⟨S.toArray⟩, .string ⟨#[85, 78]⟩] W fun e w' => e = .returned (.tuple #[.string ⟨(unK S).1.toArray⟩, .bool (unK S).2]) ∧ w' = W := fun W => by
    have := cC W
    have e3 : (⟨#[85, 78]⟩ : ByteArray).data.toList = [85, 78] := rfl
    rw [e3] at this
    simp only [List.toList_toArray] at this
    rw [e1, e2] at this
    exact this
  have y0 := Below.refl w.heap.size w
  have cNm : ∀ (T N : List UInt8), T.length ≤ 20 → nameF (92 :: T) = .inr N → ∀ W, Below w.heap.size w W → Calls Tryz.prog 103 #[.string ⟨(92 :: T).toArray⟩] W fun e w' => e = .returned (.tuple #[.string ⟨N.toArray⟩, .nilIface]) ∧ Below W.heap.size W w' := fun T N hT hn W hW => by
    have := fname_any (92 :: T) W (by simp; omega) (by obtain ⟨Ty, hTy⟩ := hG; exact ⟨Ty, below_same hW hTy⟩)
    rw [hn] at this
    exact this
  clear e1 e2 hG
  obtain ⟨R, hR⟩ : ∃ R, sysK S = R := ⟨_, rfl⟩
  rw [hR]
  by_cases hT : (unK S).1 ∈ wordsL
  · have hcase : ∃ T N, (unK S).1 = T ∧ sysK S = some (N, (unK S).2) ∧ T.length ≤ 20 ∧ nameF (92 :: T) = .inr N ∧ (T = [83, 69, 69, 78] ∨ T = [65, 78, 83, 87, 69, 82, 69, 68] ∨ T = [70, 76, 65, 71, 71, 69, 68] ∨ T = [68, 69, 76, 69, 84, 69, 68] ∨ T = [68, 82, 65, 70, 84]) := by
      have h := hT
      simp only [wordsL, List.mem_cons, List.not_mem_nil, or_false] at h
      rcases h with h | h | h | h | h
      · exact ⟨_, [92, 83, 101, 101, 110], h, sysK_at S _ _ h (by decide) (by decide), by decide, by decide, by decide⟩
      · exact ⟨_, [92, 65, 110, 115, 119, 101, 114, 101, 100], h, sysK_at S _ _ h (by decide) (by decide), by decide, by decide, by decide⟩
      · exact ⟨_, [92, 70, 108, 97, 103, 103, 101, 100], h, sysK_at S _ _ h (by decide) (by decide), by decide, by decide, by decide⟩
      · exact ⟨_, [92, 68, 101, 108, 101, 116, 101, 100], h, sysK_at S _ _ h (by decide) (by decide), by decide, by decide, by decide⟩
      · exact ⟨_, [92, 68, 114, 97, 102, 116], h, sysK_at S _ _ h (by decide) (by decide), by decide, by decide, by decide⟩
    obtain ⟨T, N, h1, h2, h3, h4, h5⟩ := hcase
    have HR : Hid (R = some (N, (unK S).2)) := Lib.hid (by rw [← hR, h2])
    have cN := cNm T N h3 h4
    rw [h1] at cC
    generalize (unK S).2 = U at cC HR
    have hcat : (⟨#[92]⟩ : ByteArray) ++ ⟨T.toArray⟩ = ⟨(92 :: T).toArray⟩ := text_cat [92] T
    clear hT h1 h2 h3 h4 hR cNm
    rcases h5 with rfl | rfl | rfl | rfl | rfl
    all_goals
      go_enter Tryz.func77, Tryz.ntmps77
      go_wp2_with (first
        | (go_at_call 102; go_loud (((with_reducible refine (cC _).mono ?_); rintro e w1 ⟨rfl, hw⟩; rw [hw]; clear hw)))
        | (go_at_call 103; go_loud ((refine (cN _ y0).mono ?_; rintro e w2 ⟨rfl, y1⟩))))
      go_quiet (fail)
      go_wp2_with fail
      go_ret3
      exact ⟨by rw [HR.out]; rfl, below_drewN y1 _⟩
  · have HR : Hid (R = none) := Lib.hid (by rw [← hR]; unfold sysK; rw [if_neg hT])
    have hn : ∀ T ∈ wordsL, ((unK S).1 == T) = false := fun T h => by rw [beq_eq_false_iff_ne]; rintro rfl; exact hT h
    have n1 := hn [83, 69, 69, 78] (by decide)
    have n2 := hn [65, 78, 83, 87, 69, 82, 69, 68] (by decide)
    have n3 := hn [70, 76, 65, 71, 71, 69, 68] (by decide)
    have n4 := hn [68, 69, 76, 69, 84, 69, 68] (by decide)
    have n5 := hn [68, 82, 65, 70, 84] (by decide)
    generalize (unK S).2 = U at cC
    generalize (unK S).1 = T at cC n1 n2 n3 n4 n5
    clear hT hn hR cNm
    go_enter Tryz.func77, Tryz.ntmps77
    go_wp2_with (first
      | (go_at_call 102; go_loud (((with_reducible refine (cC _).mono ?_); rintro e w1 ⟨rfl, hw⟩; rw [hw]; clear hw))))
    go_ret3
    exact ⟨by rw [HR.out]; rfl, y0⟩
set_option maxRecDepth 100000 in
set_option maxHeartbeats 8000000 in
theorem ofNumber_any (S : List UInt8) (w : World) : Calls Tryz.prog 79 #[.string ⟨S.toArray⟩] w fun e w' => e = .returned (.int .i64 (numsK S)) ∧ w' = w := by
  by_cases h1 : S = [76, 65, 82, 71, 69, 82]
  · subst h1
    go_enter Tryz.func79, Tryz.ntmps79
    go_wp2_with fail
    go_ret
    exact ⟨rfl, rfl⟩
  have n1 : (S == [76, 65, 82, 71, 69, 82]) = false := by simpa using h1
  by_cases h2 : S = [83, 77, 65, 76, 76, 69, 82]
  · subst h2
    clear h1 n1
    go_enter Tryz.func79, Tryz.ntmps79
    go_wp2_with fail
    go_ret
    exact ⟨rfl, rfl⟩
  have n2 : (S == [83, 77, 65, 76, 76, 69, 82]) = false := by simpa using h2
  by_cases h3 : S = [66, 69, 70, 79, 82, 69]
  · subst h3
    clear h1 n1 h2 n2
    go_enter Tryz.func79, Tryz.ntmps79
    go_wp2_with fail
    go_ret
    exact ⟨rfl, rfl⟩
  have n3 : (S == [66, 69, 70, 79, 82, 69]) = false := by simpa using h3
  by_cases h4 : S = [79, 78]
  · subst h4
    clear h1 n1 h2 n2 h3 n3
    go_enter Tryz.func79, Tryz.ntmps79
    go_wp2_with fail
    go_ret
    exact ⟨rfl, rfl⟩
  have n4 : (S == [79, 78]) = false := by simpa using h4
  by_cases h5 : S = [83, 73, 78, 67, 69]
  · subst h5
    clear h1 n1 h2 n2 h3 n3 h4 n4
    go_enter Tryz.func79, Tryz.ntmps79
    go_wp2_with fail
    go_ret
    exact ⟨rfl, rfl⟩
  have n5 : (S == [83, 73, 78, 67, 69]) = false := by simpa using h5
  have e : numsK S = 0 := by unfold numsK; rw [if_neg h1, if_neg h2, if_neg h3, if_neg h4, if_neg h5]
  rw [e]
  clear h1 h2 h3 h4 h5 e
  go_enter Tryz.func79, Tryz.ntmps79
  go_wp2_with fail
  go_ret
  exact ⟨rfl, rfl⟩
theorem key_size : (Tryz.prog.info? 32).map (·.size) = some 6 := by kernel_rfl
abbrev zero6 : Array Value := #[.int .i64 0, .string ⟨#[]⟩, .string ⟨#[]⟩, .int .i64 0, .slice none 0 0, .slice none 0 0]
set_option maxRecDepth 100000 in
set_option maxHeartbeats 8000000 in
theorem notK_any (a b c d e f : Value) (w : World) : Calls Tryz.prog 78 #[.agg #[a, b, c, d, e, f]] w fun x w' => x = .returned (.agg #[.int .i64 13, .string ⟨#[]⟩, .string ⟨#[]⟩, .int .i64 0, .slice none 0 0, .slice (some ⟨w.heap.size + 2, 0, none⟩) 1 1]) ∧ Below w.heap.size w w' ∧ w'.heap[w.heap.size + 2]? = some (.cells #[a, b, c, d, e, f] 32 (0, 0)) := by
  have s1 := alloc_size w (.cells #[a, b, c, d, e, f] 32)
  go_enter Tryz.func78, Tryz.ntmps78
  go_wp2_with fail
  have hn := World.heap_alloc_new (w.alloc (.cells #[a, b, c, d, e, f] 32)) (.cells #[.int .i64 13, .string ⟨#[]⟩, .string ⟨#[]⟩, .int .i64 0, .slice none 0 0, .slice (some ⟨w.heap.size + 1 + 1, 0, none⟩) 1 1] 32)
  have s2 := alloc_size (w.alloc (.cells #[a, b, c, d, e, f] 32)) (.cells #[.int .i64 13, .string ⟨#[]⟩, .string ⟨#[]⟩, .int .i64 0, .slice none 0 0, .slice (some ⟨w.heap.size + 1 + 1, 0, none⟩) 1 1] 32)
  have hn2 := World.heap_alloc_new ((w.alloc (.cells #[a, b, c, d, e, f] 32)).alloc (.cells #[.int .i64 13, .string ⟨#[]⟩, .string ⟨#[]⟩, .int .i64 0, .slice none 0 0, .slice (some ⟨w.heap.size + 1 + 1, 0, none⟩) 1 1] 32)) (.cells #[a, b, c, d, e, f] 32)
  rw [s1] at hn s2
  rw [s2] at hn2
  refine bodyPost_ret (results_cell_row (P := Tryz.prog) rfl _ _ (w.heap.size + 1) _ _ _ _ rfl (alloc_same hn) Tryz.underlying32 rfl key_size) rfl ?_
  exact ⟨rfl, (((Below.refl _ _).alloc (Nat.le_refl _) _).alloc (by omega) _).alloc (by omega) _, hn2⟩
end Go.Proofs.YtcahhnjponeeeaaGreatDoor
