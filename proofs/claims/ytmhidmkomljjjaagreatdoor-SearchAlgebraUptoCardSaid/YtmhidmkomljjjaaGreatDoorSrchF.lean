/- The walk over search's keys: where key brings what its plain function says, keys does, too. No condition beyond those each names. The walk over search's key: too deep or too many; no word; a list. Conditions: none beyond those each names. -/
import Derived.Test.YtmhidmkomljjjaaGreatDoorSrchD
import Derived.Test.YtmhidmkomljjjaaGreatDoorPSearch2
import Derived.Test.YtmhidmkomljjjaaGreatDoorHeldS
import Derived.Deep.AppendLies
import Derived.Deep.DeepCutAuto
import Derived.Deep.CutBlock
namespace Go.Proofs.YtmhidmkomljjjaaGreatDoor
open Go.RowKit Go.Shelf Go.Sort
set_option linter.unusedSimpArgs false

/-- what keys brings, as a key with no words left -/
def keysE : Except Nat (KeyP × Nat) → KeyE
  | .error e => .error e
  | .ok (k, n) => .ok (k, [], n)
def keysR : Except Nat (List KeyP × Nat) → KeyE
  | .error e => .error e
  | .ok (ks, m) => .ok (allK ks, [], m)
theorem keysE_keys (f : List Wd → Nat → KeyE) (l : List Wd) (n : Nat) : keysE (keysK f l n) = keysR (loopK f (l.length + 1) l n []) := by
  unfold keysK
  cases loopK f (l.length + 1) l n [] with
  | error e => rfl
  | ok x => rfl
/-- the keys so far, in a row of their own -/
structure RowK (w0 w : World) (P n : Nat) (v : Value) (l : List Wd) (items : List (KeyP × List Value)) (kv : Value) (wr : World) : Prop where
  kw : KeyW w0 w P n v l wr
  own : wr.ownsRow (w.heap.size + 1) 33 6 kv items.length (cellsK items)
  kids : ∀ x ∈ items, KeyC wr (fun j => w.heap.size < j ∧ kv.ownBlock ≠ some j) x.2 x.1
theorem parsK_ne {w : World} {P n k : Nat} {v : Value} {c : Array Value} {T : TypeId} {fz : Nat × Nat} (h : ParsK w P v n) (hk : w.heap[k]? = some (.cells c T fz)) (hT : T ≠ 52) : k ≠ P := by
  rintro rfl
  unfold ParsK at h
  rw [hk] at h
  have := congrArg (fun o : Option Obj => match o with | some (.cells _ t _) => t | _ => T) h
  exact hT this
theorem RowK.call {w0 w wr w' : World} {P n n' : Nat} {v v' : Value} {l l' : List Wd} {items : List (KeyP × List Value)} {kv : Value} (h : RowK w0 w P n v l items kv wr) (hP : P < w.heap.size) (hk : Kept (fun k => k = P) wr w') (hs : StK w0 P n' v' l' w') : RowK w0 w P n' v' l' items kv w' := by
  refine ⟨h.kw.next hP hk hs, ?_, fun x hx => ?_⟩
  · refine owns_same h.own fun j o hj hor => hk.obj hj ?_
    obtain ⟨c, fz, rfl⟩ := hor
    exact parsK_ne h.kw.st.pars hj (by decide)
  · exact (h.kids x hx).keep hk.size (fun j hj hl => hk.block j hl (fun e => by have : j = P := e; omega)) (fun j hj _ => hj)
theorem RowK.push {w0 w w4 w6 : World} {P n : Nat} {v : Value} {l : List Wd} {items : List (KeyP × List Value)} {kv kv' : Value} (h : RowK w0 w P n v l items kv w4) (hP : P < w.heap.size) (k : KeyP) (a b c d e f : Value) (H : Nat) (hH : w.heap.size < H) (hv : ∀ g, kv.ownBlock = some g → g < H) (hc : KeyC w4 (fun j => H ≤ j) [a, b, c, d, e, f] k)
    (hown : w6.ownsRow (w.heap.size + 1) 33 6 kv' (items.length + 1) (cellsK items ++ [a, b, c, d, e, f])) (hg : (w4.alloc (.cells #[a, b, c, d, e, f] 33)).grownBy w6 kv.ownBlock) (hat : ∀ g, kv'.ownBlock = some g → kv.ownBlock = some g ∨ g = w4.heap.size + 1) :
    RowK w0 w P n v l (items ++ [(k, [a, b, c, d, e, f])]) kv' w6 := by
  have hPl := h.kw.st.pars.lt
  have hR := h.kw.size
  have hsz := alloc_size w4 (.cells #[a, b, c, d, e, f] 33)
  have hle := hg.size
  have hlow : ∀ j, kv.ownBlock = some j → w.heap.size + 1 ≤ j := fun j e => (h.own.lt j e).1
  have same : ∀ j, j < w4.heap.size → kv.ownBlock ≠ some j → w6.heap[j]? = w4.heap[j]? := fun j hj hne =>
    (hg.block j (by omega) (fun e => hne e.symm)).trans (Below.heap_alloc w4 _ j hj)
  have hB : w0.heap.size ≤ P := h.kw.st.low
  have hb0 : Below w0.heap.size w0 w6 := (h.kw.st.base.alloc h.kw.st.base.size _).grown hg (by have := h.kw.st.base.size; omega) (fun j e => by have := hlow j e; omega)
  refine ⟨⟨⟨hb0, hB, (same P (by omega) (fun e => by have := hlow P e; omega)).trans h.kw.st.pars, h.kw.st.words.keep fun j hj => same j (by omega) (fun e => by have := hlow j e; omega)⟩, (same _ hR (fun e => by have := hlow _ e; omega)).trans h.kw.res, ?_⟩, ?_, ?_⟩
  · have h1 : Below w.heap.size w4 w6 := ((Below.refl w.heap.size w4).alloc h.kw.kept.size _).grown hg (by have := h.kw.kept.size; omega) (fun j e => by have := hlow j e; omega)
    exact h.kw.kept.next h1
  · have e1 : (items ++ [(k, [a, b, c, d, e, f])]).length = items.length + 1 := by simp
    have e2 : cellsK (items ++ [(k, [a, b, c, d, e, f])]) = cellsK items ++ [a, b, c, d, e, f] := by simp [cellsK]
    rw [e1, e2]
    exact hown
  · intro y hy
    have key : ∀ (ok : Nat → Prop) (cs : List Value) (u : KeyP), KeyC w4 ok cs u → (∀ j, ok j → w.heap.size < j ∧ kv.ownBlock ≠ some j) → KeyC w6 (fun j => w.heap.size < j ∧ kv'.ownBlock ≠ some j) cs u := fun ok cs u hr hok => by
      refine hr.keep (by omega) (fun j hj hl => same j hl (hok j hj).2) (fun j hj hl => ⟨(hok j hj).1, fun e => ?_⟩)
      rcases hat j e with h' | h'
      · exact (hok j hj).2 h'
      · omega
    rcases List.mem_append.1 hy with h' | h'
    · exact key _ _ _ (h.kids y h') (fun j hj => hj)
    · rw [List.mem_singleton] at h'
      subst h'
      exact key _ _ _ hc (fun j hj => ⟨by omega, fun e => by have := hv j e; omega⟩)
theorem rowK_start {w0 w : World} {P n : Nat} {v : Value} {l : List Wd} (h : StK w0 P n v l w) : RowK w0 w P n v l [] (.slice none 0 0) (w.alloc (.cells zero6 33)) :=
  ⟨keyW_start h, World.ownsRow_nil _ _ _ _, fun x hx => by cases hx⟩
theorem own_slice6 {w : World} {B : Nat} {e : TypeId} {v : Value} {n : Nat} {xs : List Value} (h : w.ownsRow B e 6 v n xs) : ∃ a c, v = .slice a n c := by
  rcases h.2 with ⟨rfl, h0⟩ | ⟨g, cap, cur, rfl, _⟩
  · exact ⟨none, 0, by rw [h0]⟩
  · exact ⟨_, cap, rfl⟩
/-- what holds at the loop's head: either the keys go on, or all is read -/
def GoesK (f : List Wd → Nat → KeyE) (l : List Wd) (n : Nat) (acc : List KeyP) (R : Except Nat (List KeyP × Nat)) : Prop :=
  if acc ≠ [] ∧ l = [] then R = .ok (acc, n) else ∃ fu, l.length + 1 ≤ fu ∧ loopK f fu l n acc = R
set_option maxRecDepth 100000 in
set_option maxHeartbeats 16000000 in
theorem keys_any (d D : Nat) (hD : D ≤ 7) (w0 : World)
    (IH : ∀ (P n : Nat) (v : Value) (l : List Wd) (w : World), n ≤ 60 → StK w0 P n v l w → Calls Tryz.prog 24 #[.pointer (some ⟨P, 0, none⟩), .int .i64 (D : Int)] w (KeyS w0 P (keyK d l n) w))
    (P n : Nat) (v : Value) (l : List Wd) (w : World) (hn : n ≤ 60) (h : StK w0 P n v l w) :
    Calls Tryz.prog 12 #[.pointer (some ⟨P, 0, none⟩), .int .i64 (D : Int)] w (KeyS w0 P (keysE (keysK (keyK d) l n)) w) := by
  obtain ⟨R, hR⟩ : ∃ R, loopK (keyK d) (l.length + 1) l n [] = R := ⟨_, rfl⟩
  rw [keysE_keys, hR]
  have HR : Hid (GoesK (keyK d) l n [] R) := Lib.hid (by
    unfold GoesK
    rw [if_neg (fun h => h.1 rfl)]
    exact ⟨_, Nat.le_refl _, hR⟩)
  have hs0 := rowK_start h
  have hP := h.pars.lt
  have H0 := Lib.hid hs0
  have hstep := key_step d
  have HS := Lib.hid hstep
  have hsz := alloc_size w (.cells zero6 33)
  have HIH := Lib.hid IH
  clear hR h hs0 hstep IH
  go_enter Tryz.func12, Tryz.ntmps12
  go_wp2_with fail
  go_loopg [5, 6] (l.length + 1) (fun g s5 s6 wr => ∃ (items : List (KeyP × List Value)) (m : Nat) (u : Value) (l' : List Wd), s6 = .bool items.isEmpty ∧ l'.length + 1 ≤ g ∧ items.length ≤ m ∧ m ≤ 60 ∧ Hid (RowK w0 w P m u l' items s5 wr) ∧ Hid (GoesK (keyK d) l' m (items.map (·.1)) R))
  case atStart => exact ⟨[], n, v, l, rfl, Nat.le_refl _, Nat.zero_le _, hn, H0, HR⟩
  case round =>
    clear H0 HR hsz
    obtain ⟨items, m, u, l', rfl, hg, him, hm60, HK, HF⟩ := hrel
    obtain ⟨g', rfl⟩ : ∃ g', gk = g' + 1 := ⟨gk - 1, by omega⟩
    obtain ⟨ka, kc, rfl⟩ := own_slice6 HK.out.own
    obtain ⟨a, c, rfl, hlc, hcm⟩ := HK.out.kw.st.words.val
    obtain ⟨c0, c1⟩ := two_cells HK.out.kw.st.pars
    have f0 := Lib.frozen_of_heap HK.out.kw.st.pars
    by_cases hend : items ≠ [] ∧ l' = []
    · obtain ⟨hne, rfl⟩ := hend
      have HX : Hid (R = .ok (items.map (·.1), m)) := Lib.hid (by
        have := HF.out
        unfold GoesK at this
        rw [if_pos ⟨by simpa using hne, rfl⟩] at this
        exact this)
      clear HF HIH
      cases items with
      | nil => exact absurd rfl hne
      | cons x rest =>
        have hRB := HK.out.kw.res
        obtain ⟨r0, r1, r2, r3, r4, r5⟩ := ksix_cells hRB
        have fz := Lib.frozen_of_heap hRB
        clear hRB
        cases rest with
        | nil =>
          obtain ⟨k, cs⟩ := x
          obtain ⟨code, name, text, kn, set, keys, sa, kb, sc, kcc, hcs⟩ := (HK.out.kids _ List.mem_cons_self).six
          simp only at hcs
          subst hcs
          rcases HK.out.own.2 with ⟨_, e0⟩ | ⟨g, cap, cur, e, hg', hh, h3, h4, h5, h6⟩
          · cases e0
          · cases e
            have hown1 := HK.out.own
            have hcell : ∀ (j : Nat) (u : Value), j < 6 → [Value.int .i64 code, .string ⟨name.toArray⟩, .string ⟨text.toArray⟩, .int .i64 kn, .slice sa set.length sc, .slice kb keys.length kcc][j]? = some u → wr.cell? ⟨g, j, none⟩ = some u := fun j u hj hu => by
              rw [hown1.cellAt j hj]
              exact hu
            have q0 := hcell 0 _ (by decide) rfl
            have q1 := hcell 1 _ (by decide) rfl
            have q2 := hcell 2 _ (by decide) rfl
            have q3 := hcell 3 _ (by decide) rfl
            have q4 := hcell 4 _ (by decide) rfl
            have q5 := hcell 5 _ (by decide) rfl
            clear hcell hh h5 h6 h4 hown1
            go_wp2_with fail
            rw [HX.out]
            refine bodyPost_ret (results_cell_row (P := Tryz.prog) rfl _ _ w.heap.size _ _ _ _ rfl (kset_six HK.out.kw.res _ _ _ _ _ _) Tryz.underlying33 rfl key_size) rfl ?_
            exact HK.out.kw.done hP ((HK.out.kids _ List.mem_cons_self).keep (Nat.le_refl _) (fun _ _ _ => rfl) (fun j hj _ => hj.1)) rfl
        | cons y rest =>
          have hl1 : ((x :: y :: rest).length : Int) ≠ 1 := by simp only [List.length_cons]; omega
          have hl2 : (((x :: y :: rest).length : Int) == 1) = false := by rw [beq_eq_false_iff_ne]; exact hl1
          obtain ⟨L, hL⟩ : ∃ L, (x :: y :: rest).length = L := ⟨_, rfl⟩
          have hie : (x :: y :: rest).isEmpty = false := rfl
          rw [hie]
          rw [hL] at hl1 hl2 ⊢
          have HLL := Lib.hid hL
          clear hL hie
          go_wp2_with fail
          rw [HX.out]
          refine bodyPost_ret (results_cell_row (P := Tryz.prog) rfl _ _ w.heap.size _ _ _ _ rfl (kset_six HK.out.kw.res _ _ _ _ _ _) Tryz.underlying33 rfl key_size) rfl ?_
          refine HK.out.kw.done hP ?_ rfl
          have hrow := keyC_row (ok := fun j => w.heap.size < j) (code := 15) HK.out.own (fun g hg => (HK.out.own.lt g hg).1) (fun z hz => (HK.out.kids z hz).keep (Nat.le_refl _) (fun _ _ _ => rfl) (fun j hj _ => hj.1)) (by decide)
          rw [HLL.out] at hrow
          exact hrow
    · obtain ⟨fu, hfu, hF⟩ : ∃ fu, l'.length + 1 ≤ fu ∧ loopK (keyK d) fu l' m (items.map (·.1)) = R := by
        have := HF.out
        unfold GoesK at this
        rw [if_neg (fun h => hend ⟨by simpa using h.1, h.2⟩)] at this
        exact this
      obtain ⟨fu, rfl⟩ : ∃ f2, fu = f2 + 1 := ⟨fu - 1, by omega⟩
      have cK := HIH.out P m _ l' wr hm60 HK.out.kw.st
      unfold KeyS at cK
      have hlen : items.isEmpty = false → (0 : Int) < (l'.length : Int) := fun h => by
        have : l' ≠ [] := fun e => hend ⟨fun e2 => (by subst e2; cases h), e⟩
        have := List.length_pos_iff.2 this
        omega
      cases hk : keyK d l' m with
      | error E =>
        rw [hk] at cK
        have HX : Hid (R = .error E) := Lib.hid (by rw [← hF, loop_bad hk])
        clear hF HF hk hend
        cases hie : items.isEmpty with
        | true =>
          clear hlen hie
          go_wp2_with ((go_at_call 24; go_loud (((with_reducible refine cK.mono ?_); rintro e w1 h1; obtain ⟨rfl, hk1⟩ := h1))))
          exact ⟨rfl, keyS_bad (by rw [HX.out]; rfl) ⟨rfl, HK.out.kw.kept.trans hk1⟩⟩
        | false =>
          have hl0 := hlen hie
          clear hlen hie
          go_wp2_with ((go_at_call 24; go_loud (((with_reducible refine cK.mono ?_); rintro e w1 h1; obtain ⟨rfl, hk1⟩ := h1))))
          exact ⟨rfl, keyS_bad (by rw [HX.out]; rfl) ⟨rfl, HK.out.kw.kept.trans hk1⟩⟩
      | ok x =>
        obtain ⟨k, l2, m2⟩ := x
        rw [hk] at cK
        obtain ⟨g1, g2, g3⟩ := HS.out _ _ _ _ _ hk
        have HN : Hid (GoesK (keyK d) l2 m2 ((items.map (·.1)) ++ [k]) R) := Lib.hid (by
          unfold GoesK
          rw [loop_more hk] at hF
          by_cases he : l2 = []
          · rw [if_pos he] at hF
            rw [if_pos ⟨by simp, he⟩, hF]
          · rw [if_neg he] at hF
            rw [if_neg (fun h => he h.2)]
            exact ⟨fu, by omega, hF⟩)
        have hil : items.length + 1 ≤ 60 := by omega
        have hwl : ∀ g, (Value.slice ka items.length kc).ownBlock = some g → g < wr.heap.size := fun g hg => (HK.out.own.lt g hg).2
        have hwr : w.heap.size < wr.heap.size := HK.out.kw.size
        clear hF HF hk hend
        cases hie : items.isEmpty with
        | true =>
          clear hlen
          go_wp2_with (first
            | (go_at_call 24; go_loud (((with_reducible refine cK.mono ?_); rintro e w1 h1; obtain ⟨v1, cs, rfl, hc1, st1, hk1⟩ := h1; obtain ⟨code, name, text, kn, set, keys, sa, kb, sc, kcc, rfl⟩ := hc1.six; have hrow1 := HK.out.call hP hk1 st1; have ho1 := hrow1.own; have hbs := hrow1.kw.size)))
            | (at_builtin; go_must (refine wpList_app6 rfl _ _ 31 rfl 33 Tryz.underlying31 key_info rfl (w.heap.size + 1) (.slice ka items.length kc) items.length (cellsK items) w1 rfl ho1 _ _ _ _ _ _ rfl rfl rfl rfl rfl rfl rfl ?c3 (by decide) ?c5 ?_)))
          case c3 => omega
          case c5 => omega
          intro v' w6 hown6 hg6 hat
          obtain ⟨na, nc, rfl⟩ := own_slice6 hown6
          have hnew := hrow1.push hP k _ _ _ _ _ _ wr.heap.size hwr hwl hc1 hown6 hg6 hat
          go_wp2_with fail
          go_roundg g'
          case measure => omega
          case rel => exact ⟨items ++ [(k, _)], m2, v1, l2, by simp, by omega, by simp; omega, g3, Lib.hid hnew, by simpa using HN⟩
        | false =>
          have hl0 := hlen hie
          have hl0n : decide ((0 : Int) < (l'.length : Int)) = true := decide_eq_true hl0
          clear hlen
          go_wp2_with (first
            | (go_at_call 24; go_loud (((with_reducible refine cK.mono ?_); rintro e w1 h1; obtain ⟨v1, cs, rfl, hc1, st1, hk1⟩ := h1; obtain ⟨code, name, text, kn, set, keys, sa, kb, sc, kcc, rfl⟩ := hc1.six; have hrow1 := HK.out.call hP hk1 st1; have ho1 := hrow1.own; have hbs := hrow1.kw.size)))
            | (at_builtin; go_must (refine wpList_app6 rfl _ _ 31 rfl 33 Tryz.underlying31 key_info rfl (w.heap.size + 1) (.slice ka items.length kc) items.length (cellsK items) w1 rfl ho1 _ _ _ _ _ _ rfl rfl rfl rfl rfl rfl rfl ?c3 (by decide) ?c5 ?_)))
          case c3 => omega
          case c5 => omega
          intro v' w6 hown6 hg6 hat
          obtain ⟨na, nc, rfl⟩ := own_slice6 hown6
          have hnew := hrow1.push hP k _ _ _ _ _ _ wr.heap.size hwr hwl hc1 hown6 hg6 hat
          go_wp2_with fail
          go_roundg g'
          case measure => omega
          case rel => exact ⟨items ++ [(k, _)], m2, v1, l2, by simp, by omega, by simp; omega, g3, Lib.hid hnew, by simpa using HN⟩
end Go.Proofs.YtmhidmkomljjjaaGreatDoor
namespace Go.Proofs.YtmhidmkomljjjaaGreatDoor
open Go.RowKit Go.Shelf Go.Sort
set_option linter.unusedSimpArgs false

/-- key's own beginning: the result's block is laid, and the key is counted -/
abbrev keyB (w : World) (P n : Nat) : World := (w.setCell ⟨P, 1, none⟩ (.int .i64 ((n : Int) + 1))).alloc (.cells zero6 33)
theorem keyB_at {w0 w : World} {P n : Nat} {v : Value} {l : List Wd} (h : StK w0 P n v l w) : KeyW w0 w P (n + 1) v l (keyB w P n) := by
  have hk : Kept (fun k => k = P) w (w.setCell ⟨P, 1, none⟩ (.int .i64 ((n + 1 : Nat) : Int))) := (Kept.refl _ _).setB _
  have h1 := keyW_start (h.next hk (set2_1 h.pars) (h.words.kept hk h.low h.base.size))
  refine ⟨h1.st, ?_, hk.trans h1.kept⟩
  have := h1.res
  rw [set_size] at this
  exact this
set_option maxRecDepth 100000 in
set_option maxHeartbeats 8000000 in
theorem key_limit (D : Nat) (hD : D ≤ 7) (w0 : World) (P n : Nat) (v : Value) (l : List Wd) (w : World) (h : StK w0 P n v l w) (hn : n ≤ 60) (hl : 6 < D ∨ 60 < n + 1) : Calls Tryz.prog 24 #[.pointer (some ⟨P, 0, none⟩), .int .i64 (D : Int)] w (KeyS w0 P (.error 4) w) := by
  have cF : ∀ W : World, Calls Tryz.prog 38 #[.int .i64 4] W fun e w' => e = .panicked [{ v := .iface 48 (.agg #[.int .i64 4]), recovered := false }] ∧ w' = W := fun W => failK_any 4 W
  obtain ⟨c0, c1⟩ := two_cells h.pars
  have f1 := Lib.frozen_of_heap h.pars 1
  have hP := h.pars.lt
  have K1 := Lib.hid (keyB_at h)
  clear h
  by_cases h6 : 6 < D
  · have h6z : (6 : Int) < (D : Int) := by omega
    go_enter Tryz.func24, Tryz.ntmps24
    go_wp2_with ((go_at_call 38; go_loud (((with_reducible refine (cF _).mono ?_); rintro e w4 ⟨rfl, hw4⟩; rw [hw4]; clear hw4))))
    exact ⟨rfl, rfl, K1.out.kept⟩
  · have h6z : decide ((6 : Int) < (D : Int)) = false := decide_eq_false (by omega)
    have h60z : (60 : Int) < (n : Int) + 1 := by omega
    go_enter Tryz.func24, Tryz.ntmps24
    go_wp2_with ((go_at_call 38; go_loud (((with_reducible refine (cF _).mono ?_); rintro e w4 ⟨rfl, hw4⟩; rw [hw4]; clear hw4))))
    exact ⟨rfl, rfl, K1.out.kept⟩

set_option maxRecDepth 100000 in
set_option maxHeartbeats 8000000 in
theorem key_none (D : Nat) (hD : D ≤ 6) (w0 : World) (P n : Nat) (v : Value) (w : World) (h : StK w0 P n v [] w) (hn : n + 1 ≤ 60) : Calls Tryz.prog 24 #[.pointer (some ⟨P, 0, none⟩), .int .i64 (D : Int)] w (KeyS w0 P (.error 3) w) := by
  obtain ⟨a, c, rfl, -, -⟩ := h.words.val
  obtain ⟨c0, c1⟩ := two_cells h.pars
  have f1 := Lib.frozen_of_heap h.pars 1
  have hP := h.pars.lt
  have hK1 := keyB_at h
  have h6z : decide ((6 : Int) < (D : Int)) = false := decide_eq_false (by omega)
  have h60z : decide ((60 : Int) < (n : Int) + 1) = false := decide_eq_false (by omega)
  obtain ⟨w1, hw1⟩ : ∃ w1, keyB w P n = w1 := ⟨_, rfl⟩
  rw [hw1] at hK1
  have K1 := Lib.hid hK1
  have HW := Lib.hid hw1
  have cW := word_st hK1.st
  unfold WordS at cW
  clear h hK1 hw1
  go_enter Tryz.func24, Tryz.ntmps24
  go_upto_region 2 with fail
  rw [show (w.setCell ⟨P, 1, none⟩ (.int .i64 ((n : Int) + 1))).alloc (.cells #[.int .i64 0, .string ⟨#[]⟩, .string ⟨#[]⟩, .int .i64 0, .slice none 0 0, .slice none 0 0] 33) = w1 from HW.out]
  clear c0 c1 f1
  obtain ⟨c0, c1⟩ := two_cells K1.out.st.pars
  go_wp2_with ((go_at_call 39; go_loud (((with_reducible refine cW.mono ?_); rintro e w2 h2; obtain ⟨rfl, hk2⟩ := h2))))
  exact ⟨rfl, rfl, K1.out.kept.trans hk2⟩
end Go.Proofs.YtmhidmkomljjjaaGreatDoor
