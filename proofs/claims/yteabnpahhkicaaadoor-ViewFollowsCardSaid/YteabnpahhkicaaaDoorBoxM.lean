/- The walks over the statements' words on posts: short, boxed. Condition: flags.system lies as the program's text lays it. -/
import Derived.Test.YteabnpahhkicaaaDoorBoxL
import Derived.Test.YteabnpahhkicaaaDoorViewC
namespace Go.Proofs.YteabnpahhkicaaaDoor
open Go.RowKit Go.Shelf Go.Sort

/-- a row of posts -/
def PRow (w : World) (v : Value) (l : List Pst) : Prop := ∃ ao cap, v = .slice ao l.length cap ∧ l.length ≤ cap ∧ (cap ≤ 9223372036854775807 ∧ (ao = none → cap = 0)) ∧ ∀ (j : Nat) (x : Pst), l[j]? = some x → ∃ b off fv, ao = some ⟨b, off, none⟩ ∧ b < w.heap.size ∧ SRow w fv x.flags ∧
  w.cell? ⟨b, off + j * 5, none⟩ = some (.int .i64 x.what) ∧ w.cell? ⟨b, off + j * 5 + 1, none⟩ = some (.int .i64 x.uid) ∧ w.cell? ⟨b, off + j * 5 + 2, none⟩ = some (.int .i64 x.n) ∧ w.cell? ⟨b, off + j * 5 + 3, none⟩ = some fv ∧ w.cell? ⟨b, off + j * 5 + 4, none⟩ = some (.string ⟨x.text.toArray⟩)
theorem PRow.below {w w' : World} {v : Value} {l : List Pst} (h : PRow w v l) (hb : Below w.heap.size w w') : PRow w' v l := by
  obtain ⟨ao, cap, h1, h2, h3, h4⟩ := h
  refine ⟨ao, cap, h1, h2, h3, fun j x hj => ?_⟩
  obtain ⟨b, off, fv, e1, e2, e3, c0, c1, c2, c3, c4⟩ := h4 j x hj
  have hc := fun i => hb.cell (p := ⟨b, i, none⟩) e2
  exact ⟨b, off, fv, e1, Nat.lt_of_lt_of_le e2 hb.size, e3.below hb, (hc _).trans c0, (hc _).trans c1, (hc _).trans c2, (hc _).trans c3, (hc _).trans c4⟩
/-- posts are short enough to be held -/
def pstF (x : Pst) : Bool := textsF x.flags && decide (x.text.length ≤ 300)
def shortF (l : List Pst) : Bool := decide (l.length ≤ 40) && l.all pstF
theorem ViewS.keptB {N : Nat} {w w' : World} {V B : Nat} {uv fv : Value} {us : Us} {c : Array Value} (h : ViewS N w V uv fv us) (hB : w.heap[B]? = some (.cells c 29 (0, 0))) (hN : N ≤ B) (hk : Kept (fun k => k = B) w w') : ViewS N w' V uv fv us := by
  obtain ⟨gs, h1, h2, h3, h4⟩ := h
  have hsame : ∀ {e : TypeId} {sz n : Nat} {v : Value} {xs : List Value}, w.ownsRow N e sz v n xs → e ≠ 29 → w'.ownsRow N e sz v n xs := fun hv he => owns_same hv (fun j o hj ho => hk.obj hj (fun e' => by
    obtain ⟨c', fz, rfl⟩ := ho
    rw [e', hB] at hj
    cases hj
    exact he rfl))
  refine ⟨gs, hk.obj h1 (ne_of_obj h1 hB (by intro e; cases e)), hsame h2 (by decide), hsame h3 (by decide), h4.kept hk (spares_at hB hN (by decide) (by decide))⟩

theorem view_not {N : Nat} {w : World} {V B : Nat} {uv fv : Value} {us : Us} {c : Array Value} (h : ViewS N w V uv fv us) (hB : w.heap[B]? = some (.cells c 29 (0, 0))) : ¬ (B = V ∨ uv.ownBlock = some B ∨ fv.ownBlock = some B) := by
  obtain ⟨gs, h1, h2, h3, _⟩ := h
  rintro (e | e | e)
  · subst e; rw [hB] at h1; cases h1
  · rcases h2.2 with ⟨e0, _⟩ | ⟨g, c', cur, e0, _, hh, _⟩
    · rw [e0] at e; cases e
    · rw [e0] at e; cases e
      rw [hB] at hh; cases hh
  · rcases h3.2 with ⟨e0, _⟩ | ⟨g, c', cur, e0, _, hh, _⟩
    · rw [e0] at e; cases e
    · rw [e0] at e; cases e
      rw [hB] at hh; cases hh
set_option maxRecDepth 100000 in
set_option maxHeartbeats 4000000 in
theorem short_any (v : Value) (l : List Pst) (w : World) (hv : PRow w v l) (ht : ∀ x ∈ l, (∀ t ∈ x.flags, t.length ≤ 9223372036854775807) ∧ x.text.length ≤ 9223372036854775807) :
    Calls Tryd.prog 4 #[v] w fun e w' => e = .returned (.bool (shortF l)) ∧ Below w.heap.size w w' := by
  obtain ⟨ao, cap, rfl, hcap, ⟨hcm, _⟩, hcell⟩ := hv
  have HC := Lib.hid hcell
  have HT := Lib.hid ht
  obtain ⟨R, hR⟩ : ∃ R, shortF l = R := ⟨_, rfl⟩
  rw [hR]
  clear hcell ht
  by_cases h40 : (40 : Int) < (l.length : Int)
  · have hX : R = false := by
      rw [← hR]; unfold shortF
      rw [decide_eq_false (by omega)]; rfl
    subst hX
    clear hR
    go_enter Tryd.func4, Tryd.ntmps4
    go_wp2_with fail
    go_ret
    exact ⟨rfl, Below.refl _ _⟩
  · have HR : Hid (R = (l.drop 0).all pstF) := by
      show _ = _
      rw [← hR]; unfold shortF
      rw [decide_eq_true (by omega)]; rfl
    clear hR
    go_enter Tryd.func4, Tryd.ntmps4
    go_wp2_with fail
    go_loopg [3] l.length (fun g3 s3 wr => ∃ k : Nat, k + g3 = l.length ∧ s3 = .int .i64 (k : Int) ∧ Below w.heap.size w wr ∧ Hid (R = (l.drop k).all pstF))
    case atStart => exact ⟨0, by omega, rfl, Below.refl _ _, HR.out⟩
    case round =>
      obtain ⟨k, hk, rfl, hbr, HK⟩ := hrel
      clear HR
      by_cases hlt : k < l.length
      · obtain ⟨g', rfl⟩ : ∃ g', gk = g' + 1 := ⟨gk - 1, by omega⟩
        obtain ⟨x, hx⟩ : ∃ x, l[k]? = some x := ⟨l[k], List.getElem?_eq_getElem hlt⟩
        obtain ⟨b, off, fv, rfl, hb, hS, _, _, _, c3, c4⟩ := HC.out k x hx
        have d3 := (hbr.cell (p := ⟨b, off + k * 5 + 3, none⟩) hb).trans c3
        have d4 := (hbr.cell (p := ⟨b, off + k * 5 + 4, none⟩) hb).trans c4
        have hbW : b < wr.heap.size := Nat.lt_of_lt_of_le hb hbr.size
        obtain ⟨hx1, hx2⟩ := HT.out x (List.mem_of_getElem? hx)
        have hts := text_size x.text
        have cT := texts_any fv x.flags wr (hS.below hbr) hx1
        have hdr : l.drop k = x :: l.drop (k + 1) := by
          rw [List.drop_eq_getElem_cons hlt]
          rw [List.getElem?_eq_getElem hlt] at hx
          rw [Option.some.inj hx]
        have hK := HK.out
        rw [hdr, List.all_cons] at hK
        unfold pstF at hK
        obtain ⟨fa, fn, fc, rfl⟩ : ∃ a n c, fv = .slice a n c := by
          obtain ⟨ao, cap, h, _⟩ := hS
          exact ⟨_, _, _, h⟩
        have hkz : (k : Int) < (l.length : Int) := by omega
        clear hS hx1
        cases hT : textsF x.flags with
        | false =>
          have hX : R = false := by rw [hK, hT]; rfl
          subst hX
          rw [hT] at cT
          clear hK HK hdr hx hT
          go_wp2_with (go_at_call 12; (with_reducible refine cT.mono ?_); rintro e w2 ⟨rfl, h⟩)
          go_ret
          exact ⟨rfl, hbr.trans (h.mono hbr.size)⟩
        | true =>
          rw [hT] at cT
          by_cases h300 : (300 : Int) < (x.text.length : Int)
          · have hX : R = false := by rw [hK, hT, decide_eq_false (by omega)]; rfl
            subst hX
            clear hK HK hdr hx hT
            go_wp2_with (go_at_call 12; (with_reducible refine cT.mono ?_); rintro e w2 ⟨rfl, h⟩; have d4 := (h.cell (p := ⟨b, off + k * 5 + 4, none⟩) hbW).trans d4)
            go_ret
            exact ⟨rfl, hbr.trans (h.mono hbr.size)⟩
          · have HK2 : Hid (R = (l.drop (k + 1)).all pstF) := by show _ = _; rw [hK, hT, decide_eq_true (by omega)]; rfl
            clear hK HK hdr hx hT
            go_wp2_with (go_at_call 12; (with_reducible refine cT.mono ?_); rintro e w2 ⟨rfl, h⟩; have d4 := (h.cell (p := ⟨b, off + k * 5 + 4, none⟩) hbW).trans d4)
            go_roundg g'
            case measure => omega
            case rel => exact ⟨k + 1, by omega, by go_num, hbr.trans (h.mono hbr.size), HK2.out⟩
      · have hX : R = true := by rw [HK.out, List.drop_eq_nil_of_le (by omega)]; rfl
        subst hX
        clear HK
        go_wp2_with fail
        go_ret
        exact ⟨rfl, hbr⟩

def bxS : List UInt8 := [92, 83, 101, 101, 110]
def bxD : List UInt8 := [92, 68, 101, 108, 101, 116, 101, 100]
def bxd : List UInt8 := [92, 100, 101, 108, 101, 116, 101, 100]
def bx0 : BoxP := ⟨1, 5, []⟩
def bx1 : BoxP := ⟨1, 6, [⟨5, [bxS], 3, [120]⟩]⟩
def bx2 : BoxP := ⟨1, 6, [⟨5, [bxS, bxD], 3, [120]⟩]⟩
def bx3 : BoxP := ⟨1, 6, []⟩
theorem bx_set1 : setF [bxS] = .inr [bxS] := by decide +kernel
theorem bx_set2 : setF [bxd] = .inr [bxD] := by decide +kernel
theorem bx_set3 : setF [bxS, bxD] = .inr [bxS, bxD] := by decide +kernel
theorem bx_or : canonF ([bxS] ++ [bxD]) = [bxS, bxD] := by decide +kernel
theorem bx_app : appB bx0 [bxS] 3 [120] = (.inr 5, bx1) := by
  unfold appB
  rw [bx_set1]
  rfl
theorem bx_find : findB bx1.ls 5 = some 0 := by decide
theorem bx_flag : flagB bx1 5 1 [bxd] = (none, bx2) := by
  unfold flagB
  simp only [bx_find, bx_set2]
  have : doFl 1 (((bx1.ls[0]?).map (·.flags)).getD []) [bxD] = some [bxS, bxD] := by
    show some (canonF ([bxS] ++ [bxD])) = _
    rw [bx_or]
  rw [this]
  rfl
theorem bx_right1 : rightB bx1 = true := by
  have : letOk 6 0 ⟨5, [bxS], 3, [120]⟩ = true := by
    unfold letOk
    simp only [bx_set1]
    rfl
  show (letOk 6 0 ⟨5, [bxS], 3, [120]⟩ && true) && true && true && true = true
  rw [this]
  rfl
theorem bx_exp : expB bx2 (fun _ => true) = ([5], bx3) := by
  have : goesB (fun _ => true) ⟨5, [bxS, bxD], 3, [120]⟩ = true := by
    unfold goesB
    rfl
  show (([⟨5, [bxS, bxD], 3, [120]⟩] : List Let).filter _ |>.map (·.uid), _) = _
  simp [expB, bx2, bx3, this]
theorem bx_look : lookF bx3.ls (bx2.ls.map fun x => (x.uid, x.flags)) true = ([⟨1, 1, []⟩], []) := by rfl
set_option maxRecDepth 100000 in
set_option maxHeartbeats 8000000 in
theorem boxed_any (w : World) (hG : FlagG w) :
    Calls Tryd.prog 5 #[] w fun e w' => e = .returned (.bool true) ∧ Below w.heap.size w w' := by
  have hgl := flagG_lt hG
  have x0 := World.heap_alloc_new w (.cells #[.int .i64 1, .int .i64 5, .slice none 0 0] 29)
  have y0 : Below w.heap.size w (w.alloc (.cells #[.int .i64 1, .int .i64 5, .slice none 0 0] 29)) := (Below.refl _ _).alloc (Nat.le_refl _) _
  have s0 := alloc_size w (.cells #[.int .i64 1, .int .i64 5, .slice none 0 0] 29)
  obtain ⟨w1, hw1⟩ : ∃ w1, w.alloc (.cells #[.int .i64 1, .int .i64 5, .slice none 0 0] 29) = w1 := ⟨_, rfl⟩
  rw [hw1] at x0 y0 s0
  obtain ⟨N, hNN⟩ : ∃ N, w.heap.size = N := ⟨_, rfl⟩
  have hb0 : BoxS N w1 N bx0 := by
    rw [hNN] at x0
    exact ⟨.slice none 0 0, [], x0, rfl, ⟨⟨none, 0, rfl, Nat.le_refl _, ⟨by decide, fun _ => rfl⟩, (fun z hz => by cases hz), fun j u h => by simp [cellsL] at h⟩, safe_nil N w1, (fun z hz => by cases hz)⟩⟩
  have hrow : ∀ (W : World) (t : List UInt8), SRow (W.alloc (.cells #[.string ⟨t.toArray⟩] 9)) (.slice (some ⟨W.heap.size, 0, none⟩) 1 1) [t] := fun W t => ⟨_, 1, rfl, Nat.le_refl _, ⟨by decide, fun h => by cases h⟩, fun j u hj => by
    match j, hj with
    | 0, hj =>
      cases hj
      refine ⟨W.heap.size, 0, rfl, by rw [alloc_size]; exact Nat.lt_succ_self _, ?_⟩
      rw [Lib.cell_of_heap (World.heap_alloc_new W _)]; rfl
    | j + 1, hj => simp at hj⟩
  have cA : Calls Tryd.prog 13 #[.pointer (some ⟨N, 0, none⟩), .slice (some ⟨w1.heap.size, 0, none⟩) 1 1, .int .i64 3, .string ⟨#[120]⟩] (w1.alloc (.cells #[.string ⟨#[92, 83, 101, 101, 110]⟩] 9)) fun e w' => e = .returned (.tuple #[.int .i64 5, .nilIface]) ∧ BoxS N w' N bx1 ∧ Kept (fun k => k = N) (w1.alloc (.cells #[.string ⟨#[92, 83, 101, 101, 110]⟩] 9)) w' := by
    have hy := (Below.refl w1.heap.size w1).alloc (Nat.le_refl _) (.cells #[.string ⟨bxS.toArray⟩] 9)
    have := app_good N N bx0 [bxS] (.slice (some ⟨w1.heap.size, 0, none⟩) 1 1) 3 [120] 5 (w1.alloc (.cells #[.string ⟨bxS.toArray⟩] 9)) (hb0.below hy) (Nat.le_refl _) (hrow w1 bxS) ⟨by decide, by decide⟩ ((hG.below y0).below hy) (by rw [bx_app]) (by decide)
    rw [bx_app] at this
    exact this
  have cF : ∀ W, BoxS N W N bx1 → FlagG W → Calls Tryd.prog 14 #[.pointer (some ⟨N, 0, none⟩), .int .i64 5, .int .i64 1, .slice (some ⟨W.heap.size, 0, none⟩) 1 1] (W.alloc (.cells #[.string ⟨#[92, 100, 101, 108, 101, 116, 101, 100]⟩] 9)) fun e w' => e = .returned .nilIface ∧ BoxS N w' N bx2 ∧ Kept (fun k => k = N) (W.alloc (.cells #[.string ⟨#[92, 100, 101, 108, 101, 116, 101, 100]⟩] 9)) w' := fun W hb hg => by
    have hy := (Below.refl W.heap.size W).alloc (Nat.le_refl _) (.cells #[.string ⟨bxd.toArray⟩] 9)
    have := flag_any N N bx1 5 1 [bxd] (.slice (some ⟨W.heap.size, 0, none⟩) 1 1) (W.alloc (.cells #[.string ⟨bxd.toArray⟩] 9)) (hb.below hy) (Nat.le_refl _) bx_right1 (hrow W bxd) ⟨by decide, by decide⟩ (hg.below hy) (by decide) (by decide) (by decide)
    rw [bx_flag] at this
    exact this
  have cO : ∀ (W : World) (lv : Value) (zs : List (Let × Value)), N ≤ W.heap.size → zs.map (·.1) = bx2.ls → XRow N W lv zs → Calls Tryd.prog 7 #[.agg #[.int .i64 1, .int .i64 6, lv]] W fun e w' => ∃ V uv fv, e = .returned (.pointer (some ⟨V, 0, none⟩)) ∧ W.heap.size ≤ V ∧ ViewS N w' V uv fv (bx2.ls.map fun x => (x.uid, x.flags)) ∧ Below W.heap.size W w' := fun W lv zs h1 h2 h3 =>
    open_any N bx2 lv zs W h1 h2 h3 (fun x hx => by obtain rfl := List.mem_singleton.1 (show x ∈ [(⟨5, [bxS, bxD], 3, [120]⟩ : Let)] from hx); decide) (by decide)
  have cE : ∀ W, BoxS N W N bx2 → Calls Tryd.prog 15 #[.pointer (some ⟨N, 0, none⟩), .func (.func 16) #[] #[]] W fun e w' => ∃ ov, e = .returned ov ∧ w'.ownsRow W.heap.size 3 1 ov 1 [.int .i64 5] ∧ BoxS N w' N bx3 ∧ Kept (fun k => k = N) W w' := fun W hb => by
    have := exp_boxed N N bx2 (fun _ => true) W hb (Nat.le_refl _) (fun x hx => by obtain rfl := List.mem_singleton.1 (show x ∈ [(⟨5, [bxS, bxD], 3, [120]⟩ : Let)] from hx); decide) (by decide) (fun x _ W' _ => boxed1_any x.uid W')
    rw [bx_exp] at this
    exact this
  have cL : ∀ (W : World) (V : Nat) (lv uv fv : Value) (zs : List (Let × Value)), ViewS N W V uv fv (bx2.ls.map fun x => (x.uid, x.flags)) → N ≤ V → N ≤ W.heap.size → zs.map (·.1) = bx3.ls → XRow N W lv zs → Calls Tryd.prog 8 #[.pointer (some ⟨V, 0, none⟩), .agg #[.int .i64 1, .int .i64 6, lv], .bool true] W fun e w' => ∃ ov vs, e = .returned ov ∧ w'.ownsRow W.heap.size 45 3 ov vs.length (cellsN vs) ∧ ReadsN N w' vs [⟨1, 1, []⟩] ∧ Hid (∃ S : Nat → Prop, Kept S W w' ∧ ∀ j, S j → j = V ∨ uv.ownBlock = some j ∨ fv.ownBlock = some j) := fun W V lv uv fv zs h1 h2 h3 h4 h5 => by
    have := look_any N V bx3 lv uv fv zs (bx2.ls.map fun x => (x.uid, x.flags)) true W h1 h2 h3 h4 h5 ⟨(fun x hx => by cases hx), List.Pairwise.nil⟩ (fun x hx => by cases hx) (fun u hu => by obtain rfl := List.mem_singleton.1 (show u ∈ [((5 : Int), [bxS, bxD])] from hu); decide) (by decide) (fun u hu => by obtain rfl := List.mem_singleton.1 (show u ∈ [((5 : Int), [bxS, bxD])] from hu); decide) (by decide)
    refine this.mono ?_
    rintro e w' ⟨ov, vs, uv', fv', rfl, ho, hr, hv, hk, _⟩
    rw [bx_look] at hr
    exact ⟨ov, vs, rfl, ho, hr, _, hk, fun j h => h⟩
  have cA' := cA
  have HB0 := Lib.hid hb0
  have hG1 := hG.below y0
  have hN1 : N ≤ w1.heap.size := by omega
  have HS0 := Lib.hid s0
  have HX0 := Lib.hid x0
  clear hrow cA' s0 x0 hb0
  have hgN : 0 < N := by omega
  subst hNN
  have HW1 := Lib.hid hw1
  clear hw1
  go_enter Tryd.func5, Tryd.ntmps5
  go_upto_region 2 with fail
  rw [HW1.out]
  go_wp2_with (first
    | (go_at_call 13; go_loud ((with_reducible refine cA.mono ?_); rintro e w2 ⟨rfl, hb2, hk2⟩; have hn2 := hk2.size; have hy2 := (hk2.below (N := w.heap.size) (by rw [alloc_size]; omega) (fun j e => Nat.le_of_eq e.symm)); have hG2 := (hG1.below ((Below.refl w1.heap.size w1).alloc (Nat.le_refl _) (.cells #[.string ⟨#[92, 83, 101, 101, 110]⟩] 9))).kept hk2 (fun (e : 0 = w.heap.size) => by omega)))
    | (go_at_call 14; go_loud ((with_reducible refine (cF _ hb2 hG2).mono ?_); rintro e w3 ⟨rfl, hb3, hk3⟩; have HB3 := Lib.hid hb3; obtain ⟨lv, zs, hB3, hzs3, hx3⟩ := hb3; obtain ⟨ao, cap, hlv, _⟩ := hx3.1; subst hlv; have d0 : w3.cell? ⟨w.heap.size, 0, none⟩ = some (.int .i64 1) := (three_cells hB3).1; have d1 : w3.cell? ⟨w.heap.size, 1, none⟩ = some (.int .i64 6) := (three_cells hB3).2.1; have d2 := (three_cells hB3).2.2; have hn3 := hk3.size))
    | (go_at_call 7; go_loud ((with_reducible refine (cO _ _ _ (by rw [alloc_size] at hn2 hn3; omega) hzs3 hx3).mono ?_); rintro e w4 ⟨V, uv, fv, rfl, hV4, hv4, h4⟩)))
  obtain ⟨gs4, hV4', hu4, hf4, hr4⟩ := hv4
  have hv4 : ViewS w.heap.size w4 V uv fv (bx2.ls.map fun x => (x.uid, x.flags)) := ⟨gs4, hV4', hu4, hf4, hr4⟩
  have hB4 := below_same h4 hB3
  have hb4 := HB3.out.below h4
  have hs4 := h4.size
  rw [alloc_size] at hn2 hn3
  have hVn : w.heap.size ≤ V := by omega
  have hul : ∀ j, uv.ownBlock = some j → j < w4.heap.size := fun j e => (hu4.lt j e).2
  have hVl : V < w4.heap.size := (Array.getElem?_eq_some_iff.1 hV4').1
  have hfl4 : ∀ j, fv.ownBlock = some j → j < w4.heap.size := fun j e => (hf4.lt j e).2
  have y04 : Below w.heap.size w w4 := ((y0.trans (((Below.refl w1.heap.size w1).alloc (Nat.le_refl _) (.cells #[.string ⟨#[92, 83, 101, 101, 110]⟩] 9)).mono y0.size)).trans hy2).trans ((((Below.refl w2.heap.size w2).alloc (Nat.le_refl _) (.cells #[.string ⟨#[92, 100, 101, 108, 101, 116, 101, 100]⟩] 9)).mono (by omega)).trans ((hk3.below (N := w.heap.size) (by rw [alloc_size]; omega) (fun j e => Nat.le_of_eq e.symm)).trans (h4.mono (by omega))))
  clear hu4 hf4 hr4 hV4' d0 d1 d2
  go_wp2_with (go_at_call 15; go_loud ((with_reducible refine (cE _ hb4).mono ?_); rintro e w5 ⟨ov, rfl, ho5, hb5, hk5⟩; obtain ⟨lv5, zs5, hB5, hzs5, hx5⟩ := hb5; obtain ⟨ao5, cap5, hlv5, _⟩ := hx5.1; subst hlv5; have d0 : w5.cell? ⟨w.heap.size, 0, none⟩ = some (.int .i64 1) := (three_cells hB5).1; have d1 : w5.cell? ⟨w.heap.size, 1, none⟩ = some (.int .i64 6) := (three_cells hB5).2.1; have d2 := (three_cells hB5).2.2; have hn5 := hk5.size))
  have hv5 := hv4.keptB hB4 (Nat.le_refl _) hk5
  have hv5b : (∀ j, uv.ownBlock = some j → w.heap.size ≤ j) ∧ (∀ j, fv.ownBlock = some j → w.heap.size ≤ j) := by
    obtain ⟨gs5, _, h2, h3, _⟩ := hv5
    exact ⟨fun j e => (h2.lt j e).1, fun j e => (h3.lt j e).1⟩
  have hz5 : zs5.length = 0 := by
    have := congrArg List.length hzs5
    rwa [List.length_map] at this
  obtain rfl : zs5 = [] := List.eq_nil_of_length_eq_zero hz5
  obtain ⟨pl, ql, rfl⟩ := own_some ho5 (by decide)
  have hpl := ho5.lt pl rfl
  have hlc := ho5.cellAt 0 (by decide)
  simp only [List.getElem?_cons_zero] at hlc
  have HB5 := Lib.hid hB5
  have HLC := Lib.hid hlc
  clear hB5 hlc ho5 hz5
  have hlast : ∀ (w6 : World) (nv : Value) (vs : NV), w6.ownsRow w5.heap.size 45 3 nv vs.length (cellsN vs) → ReadsN w.heap.size w6 vs [⟨1, 1, []⟩] → Hid (∃ S : Nat → Prop, Kept S w5 w6 ∧ ∀ j, S j → j = V ∨ uv.ownBlock = some j ∨ fv.ownBlock = some j) →
      ∃ q c, nv = .slice (some ⟨q, 0, none⟩) 1 c ∧ w6.cell? ⟨q, 0, none⟩ = some (.int .i64 1) ∧ w6.cell? ⟨q, 1, none⟩ = some (.int .i64 1) ∧ w6.cell? ⟨pl, 0, none⟩ = some (.int .i64 5) ∧ w6.cell? ⟨w.heap.size, 1, none⟩ = some (.int .i64 6) ∧ w6.cell? ⟨w.heap.size, 2, none⟩ = some (.slice ao5 0 cap5) ∧ Below w.heap.size w w6 := by
    intro w6 nv vs ho hr hk
    obtain ⟨S, hk, hS⟩ := hk.out
    have hBn : ¬ S w.heap.size := fun e => view_not hv5 HB5.out (hS _ e)
    have hpn : ¬ S pl := fun e => by
      rcases hS _ e with e | e | e
      · omega
      · have := hul _ e; omega
      · have := hfl4 _ e; omega
    have hB6 := three_cells (hk.obj HB5.out hBn)
    obtain ⟨v, rfl⟩ := List.length_eq_one_iff.1 hr.1
    obtain ⟨v', e1, e2, e3, _⟩ := hr.2 0 _ rfl
    simp only [List.getElem?_cons_zero, Option.some.injEq] at e1
    subst e1
    obtain ⟨q, c, rfl⟩ := own_some ho (by simp)
    have q0 := ho.cellAt 0 (by simp)
    have q1 := ho.cellAt 1 (by simp)
    refine ⟨q, c, rfl, ?_, ?_, ?_, hB6.2.1, hB6.2.2, ?_⟩
    · rw [q0]; show some (Value.int .i64 v.1) = _; rw [e2]
    · rw [q1]; show some (Value.int .i64 v.2.1) = _; rw [e3]
    · rw [World.cell?_of_block (w := w5) (hk.block pl hpl.2 hpn)]; exact HLC.out
    · refine (y04.trans (hk5.below (by omega) (fun j e => Nat.le_of_eq e.symm))).trans (hk.below (by omega) (fun j e => ?_))
      rcases hS _ e with e | e | e
      · omega
      · exact hv5b.1 j e
      · exact hv5b.2 j e
  have HLAST := Lib.hid hlast
  clear hlast
  go_wp2_with (go_at_call 8; go_loud ((with_reducible refine (cL _ _ _ _ _ _ hv5 hVn (by omega) hzs5 hx5).mono ?_); rintro e w6 ⟨nv, vs, rfl, ho6, hr6, hk6⟩; obtain ⟨q, c, rfl, q0, q1, ql0, qb1, qb2, y6⟩ := HLAST.out w6 nv vs ho6 hr6 hk6))
  go_ret
  exact ⟨rfl, y6⟩
end Go.Proofs.YteabnpahhkicaaaDoor
