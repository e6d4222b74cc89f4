/- Rows of words that a statement builds; Parse's answers; the fact looked. Conditions: flags.system, strconv's table of powers and its two errors, bytealg.MaxLen and the handle of error lie as the program's text lays them. -/
import Derived.Test.YtgblgbhfgiajiaaGreatDoorSrchN
import Derived.Test.YtgblgbhfgiajiaaGreatDoorSrchR5
import Derived.Test.YtgblgbhfgiajiaaGreatDoorPSearch2
namespace Go.Proofs.YtgblgbhfgiajiaaGreatDoor
open Go.RowKit Go.Shelf Go.Sort
set_option linter.unusedSimpArgs false

/-- the cells of some words, each with the value of its list -/
def wdCells (l : List (Wd × Value)) : List Value := l.flatMap fun x => [.int .i64 x.1.kind, .string ⟨x.1.text.toArray⟩, x.2]
theorem wdCells_at : ∀ (l : List (Wd × Value)) (j : Nat) (x : Wd × Value), l[j]? = some x → (wdCells l)[j * 3]? = some (.int .i64 x.1.kind) ∧ (wdCells l)[j * 3 + 1]? = some (.string ⟨x.1.text.toArray⟩) ∧ (wdCells l)[j * 3 + 2]? = some x.2
  | [], j, x, h => by simp at h
  | y :: l, 0, x, h => by
    simp at h; subst h
    exact ⟨rfl, rfl, rfl⟩
  | y :: l, j + 1, x, h => by
    have ih := wdCells_at l j x (by simpa using h)
    have e : wdCells (y :: l) = [.int .i64 y.1.kind, .string ⟨y.1.text.toArray⟩, y.2] ++ wdCells l := rfl
    rw [e, show (j + 1) * 3 = j * 3 + 3 by omega]
    refine ⟨?_, ?_, ?_⟩
    · rw [List.getElem?_append_right (by simp)]; exact ih.1
    · rw [List.getElem?_append_right (by simp)]; simpa using ih.2.1
    · rw [List.getElem?_append_right (by simp)]; simpa using ih.2.2
theorem ReadsK.more {W : World} {B B' : Nat} {v : Value} {l : List Wd} (h : ReadsK W B v l) (hB : B ≤ B') : ReadsK W B' v l := by
  induction h with
  | mk a cap l vs h1 h2 h3 h4 _ ih =>
    refine .mk a cap l vs h1 h2 (fun j t hj => ?_) h4 ih
    obtain ⟨g, off, e, hg, c⟩ := h3 j t hj
    exact ⟨g, off, e, Nat.lt_of_lt_of_le hg hB, c⟩
theorem readsK_nil (W : World) (B : Nat) : ReadsK W B (.slice none 0 0) [] := readsK_none (l := []) (Nat.le_refl _) (by decide)
theorem readsK_row {W : World} {B g : Nat} {T : TypeId} {fz : Nat × Nat} {rs : List (Wd × Value)} {cs : Array Value} (hg : W.heap[g]? = some (.cells cs T fz)) (hc : cs.toList = wdCells rs) (hgB : g < B) (hl : rs.length ≤ 9223372036854775807) (ht : ∀ x ∈ rs, x.1.text.length ≤ 2000000) (hs : ∀ x ∈ rs, ReadsK W B x.2 x.1.list) (n : Nat) (hn : n = rs.length) :
    ReadsK W B (.slice (some ⟨g, 0, none⟩) n n) (rs.map (·.1)) := by
  subst hn
  have hm : rs.length = (rs.map (·.1)).length := (List.length_map _).symm
  have hcl : ∀ (i : Nat) (u : Value), (wdCells rs)[i]? = some u → W.cell? ⟨g, 0 + i, none⟩ = some u := fun i u hu => by
    rw [Nat.zero_add, Lib.cell_of_heap hg, ← Array.getElem?_toList, hc]; exact hu
  have key : ReadsK W B (.slice (some ⟨g, 0, none⟩) (rs.map (·.1)).length rs.length) (rs.map (·.1)) := by
    refine .mk _ _ _ (fun j => ((rs[j]?).map (·.2)).getD .nilIface) (by rw [← hm]; exact Nat.le_refl _) hl (fun j t hj => ?_) (fun j t hj => ?_) (fun j t hj => ?_)
    · rw [List.getElem?_map] at hj
      obtain ⟨x, hx, rfl⟩ := Option.map_eq_some_iff.1 hj
      obtain ⟨c0, c1, c2⟩ := wdCells_at rs j x hx
      refine ⟨g, 0, rfl, hgB, hcl _ _ c0, hcl _ _ c1, ?_⟩
      simp only [hx, Option.map_some, Option.getD_some]
      exact hcl _ _ c2
    · rw [List.getElem?_map] at hj
      obtain ⟨x, hx, rfl⟩ := Option.map_eq_some_iff.1 hj
      exact ht x (List.mem_of_getElem? hx)
    · rw [List.getElem?_map] at hj
      obtain ⟨x, hx, rfl⟩ := Option.map_eq_some_iff.1 hj
      simp only [hx, Option.map_some, Option.getD_some]
      exact hs x (List.mem_of_getElem? hx)
  rw [← hm] at key
  exact key
theorem parse_bad {l : List Wd} {E : Nat} (hp : parseK l = .error E) (v : Value) (w : World) (h : ReadsK w w.heap.size v l) (hG : SrG w) : Calls Tryz.prog 9 #[v] w fun e w' => e = .returned (.tuple #[.agg zero6, .iface 49 (.int .i64 (E : Int))]) ∧ Below w.heap.size w w' := by
  refine (parseK_any v l w h hG).mono fun e w' h => ?_
  unfold ParsedK at h
  rw [hp] at h
  exact h
theorem parse_good {l : List Wd} {k : KeyP} (hp : parseK l = .ok k) (v : Value) (w : World) (h : ReadsK w w.heap.size v l) (hG : SrG w) : Calls Tryz.prog 9 #[v] w fun e w' => ∃ (code : Int) (name text : List UInt8) (n : Int) (set : List Rg) (keys : List KeyP) (sa ka : Option Addr) (sc kc : Nat),
    e = .returned (.tuple #[.agg #[.int .i64 code, .string ⟨name.toArray⟩, .string ⟨text.toArray⟩, .int .i64 n, .slice sa set.length sc, .slice ka keys.length kc], .nilIface]) ∧ Hid (KeyC w' (fun j => w.heap.size ≤ j) [.int .i64 code, .string ⟨name.toArray⟩, .string ⟨text.toArray⟩, .int .i64 n, .slice sa set.length sc, .slice ka keys.length kc] k) ∧ Below w.heap.size w w' := by
  refine (parseK_any v l w h hG).mono fun e w' h => ?_
  unfold ParsedK at h
  rw [hp] at h
  obtain ⟨cs, h1, h2, h3⟩ := h
  obtain ⟨code, name, text, n, set, keys, sa, ka, sc, kc, rfl⟩ := h2.six
  exact ⟨code, name, text, n, set, keys, sa, ka, sc, kc, h1, Lib.hid h2, h3⟩
theorem SrG.maxL {w : World} (h : SrG w) : MaxL w := h.max
/-- whether words are read -/
def okP (l : List Wd) : Bool := match parseK l with
  | .ok _ => true
  | .error _ => false
/-- whether a letter is what words look for -/
def hearP (x : LetK) (l : List Wd) : Bool := match parseK l with
  | .ok k => holdsK x k
  | .error _ => false
/-- what looked looks for -/
def keyLk : KeyP := .mk 15 [] [] 0 [] [notK (.mk 2 [92, 83, 101, 101, 110] [] 0 [] []), .mk 6 [] [] 2 [] []]
theorem parse_num_of (n : Nat) (hn : n ≤ 2147483647) : numK (Lib.itoa n) = some (n : Int) := by
  unfold numK
  rw [itoa_nat, atoi_itoa n (by omega)]
  simp only
  rw [if_pos ⟨by omega, by omega, by rw [itoa_nat]⟩]
theorem parse_looked : parseK [atomW [117, 110, 115, 101, 101, 110], atomW [108, 97, 114, 103, 101, 114], atomW [50]] = .ok keyLk := by
  have hn : numK [50] = some 2 := by
    have h := parse_num_of 2 (by decide)
    rw [show Lib.itoa ((2 : Nat) : Int) = [50] by rw [itoa_nat]; decide +kernel] at h
    exact h
  have e1 : keyK 7 [atomW [117, 110, 115, 101, 101, 110], atomW [108, 97, 114, 103, 101, 114], atomW [50]] 0 = .ok (notK (.mk 2 [92, 83, 101, 101, 110] [] 0 [] []), [atomW [108, 97, 114, 103, 101, 114], atomW [50]], 1) := by
    rw [keyK_word _ _ _ _ (by decide)]
    unfold plainK
    rw [show sysK (greatL [117, 110, 115, 101, 101, 110]) = some ([92, 83, 101, 101, 110], true) by decide]
    rfl
  have e2 : keyK 7 [atomW [108, 97, 114, 103, 101, 114], atomW [50]] 1 = .ok (.mk 6 [] [] 2 [] [], [], 2) := by
    rw [keyK_word _ _ _ _ (by decide)]
    unfold plainK
    rw [show sysK (greatL [108, 97, 114, 103, 101, 114]) = none by decide]
    simp only
    rw [if_pos (by decide)]
    show (match (match numK [50] with | some v => Except.ok (v, ([] : List Wd)) | none => .error 3) with | .error e => Except.error e | .ok (v, l') => .ok (KeyP.mk 6 [] [] v [] [], l', 2)) = _
    rw [hn]
  unfold parseK keysK
  rw [show ([atomW [117, 110, 115, 101, 101, 110], atomW [108, 97, 114, 103, 101, 114], atomW [50]] : List Wd).length + 1 = 4 by rfl, loopK, e1]
  simp only
  rw [if_neg (by simp), loopK, e2]
  rfl
theorem holds_looked (t : List UInt8) : holdsK ⟨1, [], 0, t, 1, 1, 1⟩ keyLk = decide ((2 : Int) < (t.length : Int)) := by
  simp [keyLk, notK, holdsK, holdsAll, holdsOne]
set_option maxRecDepth 100000 in
set_option maxHeartbeats 4000000 in
theorem looked_any (w : World) (hG : SrG w) : Calls Tryz.prog 5 #[] w fun e w' => e = .returned (.bool true) ∧ Below w.heap.size w w' := by
  have y0 := (Below.refl w.heap.size w).alloc (Nat.le_refl _) (.cells #[.int .i64 1, .string ⟨#[117, 110, 115, 101, 101, 110]⟩, .slice none 0 0, .int .i64 1, .string ⟨#[108, 97, 114, 103, 101, 114]⟩, .slice none 0 0, .int .i64 1, .string ⟨#[50]⟩, .slice none 0 0] 35)
  have z0 := World.heap_alloc_new w (.cells #[.int .i64 1, .string ⟨#[117, 110, 115, 101, 101, 110]⟩, .slice none 0 0, .int .i64 1, .string ⟨#[108, 97, 114, 103, 101, 114]⟩, .slice none 0 0, .int .i64 1, .string ⟨#[50]⟩, .slice none 0 0] 35)
  have s0 := alloc_size w (.cells #[.int .i64 1, .string ⟨#[117, 110, 115, 101, 101, 110]⟩, .slice none 0 0, .int .i64 1, .string ⟨#[108, 97, 114, 103, 101, 114]⟩, .slice none 0 0, .int .i64 1, .string ⟨#[50]⟩, .slice none 0 0] 35)
  have cP := parse_good parse_looked _ _ (readsK_row (rs := [(atomW [117, 110, 115, 101, 101, 110], .slice none 0 0), (atomW [108, 97, 114, 103, 101, 114], .slice none 0 0), (atomW [50], .slice none 0 0)]) z0 rfl (by rw [s0]; exact Nat.lt_succ_self _) (by decide)
    (fun x hx => by simp at hx; rcases hx with rfl | rfl | rfl <;> decide) (fun x hx => by simp at hx; rcases hx with rfl | rfl | rfl <;> exact readsK_nil _ _) 3 rfl) (hG.below y0)
  have HG := Lib.hid (fun W (h : Below w.heap.size w W) => hG.below h)
  have Y0 := Lib.hid y0
  clear hG z0 s0 y0
  go_enter Tryz.func5, Tryz.ntmps5
  go_upto_region 2 with (go_at_call 9; go_loud (((with_reducible refine cP.mono ?_); rintro e w2 ⟨code, name, text, n, set, keys, sa, ka, sc, kc, rfl, hk, h2⟩)))
  have y2 := Y0.out.trans (h2.mono Y0.out.size)
  have b3 := (Below.refl w2.heap.size w2).alloc (Nat.le_refl _) (.cells #[.int .i64 code, .string ⟨name.toArray⟩, .string ⟨text.toArray⟩, .int .i64 n, .slice sa set.length sc, .slice ka keys.length kc] 38)
  have z3 := World.heap_alloc_new w2 (.cells #[.int .i64 code, .string ⟨name.toArray⟩, .string ⟨text.toArray⟩, .int .i64 n, .slice sa set.length sc, .slice ka keys.length kc] 38)
  generalize w2.alloc (.cells #[.int .i64 code, .string ⟨name.toArray⟩, .string ⟨text.toArray⟩, .int .i64 n, .slice sa set.length sc, .slice ka keys.length kc] 38) = w3 at *
  have y3 := y2.trans (b3.mono y2.size)
  have c1 := holds_any ⟨1, [], 0, [97, 98, 99], 1, 1, 1⟩ (.slice none 0 0) (by decide) (by decide) hk.out w3 b3 (SRow.nil w3) (HG.out w3 y3).maxL
  have c2 := fun W (hW : Below w3.heap.size w3 W) => holds_any ⟨1, [], 0, [97, 98], 1, 1, 1⟩ (.slice none 0 0) (by decide) (by decide) hk.out W (b3.trans (hW.mono b3.size)) (SRow.nil W) (HG.out W (y3.trans (hW.mono y3.size))).maxL
  rw [holds_looked] at c1
  simp only [holds_looked] at c2
  rw [show decide ((2 : Int) < (([97, 98, 99] : List UInt8).length : Int)) = true by decide] at c1
  rw [show decide ((2 : Int) < (([97, 98] : List UInt8).length : Int)) = false by decide] at c2
  obtain ⟨k0, k1, k2, k3, k4, k5⟩ := six_cells' z3
  have Z3 := Lib.hid z3
  clear hk z3 b3 y2 h2 cP Y0 HG
  go_wp2_with (first
    | (go_at_call 10; ((with_reducible refine c1.mono ?_); rintro e w4 ⟨rfl, h4⟩; have y4 := y3.trans (h4.mono y3.size); obtain ⟨k0, k1, k2, k3, k4, k5⟩ := six_cells' (below_same h4 Z3.out); have c3 := c2 w4 h4; clear c1))
    | (go_at_call 10; go_loud (((with_reducible refine c3.mono ?_); rintro e w5 ⟨rfl, h5⟩; have y5 := y4.trans (h5.mono y4.size)))))
  go_ret
  exact ⟨rfl, y5⟩
end Go.Proofs.YtgblgbhfgiajiaaGreatDoor
