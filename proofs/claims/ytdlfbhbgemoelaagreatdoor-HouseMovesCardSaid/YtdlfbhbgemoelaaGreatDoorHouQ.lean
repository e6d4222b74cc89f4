/- The walks over house.rises and house.Right of what may be: both say true. Conditions: utf8's two tables, bytealg.MaxLen, flags.system lie as the program's text lays them. The walk over house.Right of what may be: it says true. Conditions: utf8's two tables, bytealg.MaxLen, flags.system lie as the program's text lays them. -/
import Derived.Test.YtdlfbhbgemoelaaGreatDoorHouX
import Derived.Test.YtdlfbhbgemoelaaGreatDoorPHouse10
import Derived.Sort.Walk0
import Derived.Lib.LastIndexByte
import Derived.IntWalk
import Derived.Deep.RegionHeld3
import Derived.OrdersHeld
namespace Go.Proofs.YtdlfbhbgemoelaaGreatDoor
open Go.RowKit Go.Shelf Go.Sort Go.Maps
set_option linter.unusedSimpArgs false

theorem less_of {a b : Bs} (h : a < b) : Op.bytesLess a b = true := by rw [bytesLess_eq]; exact decide_eq_true h
theorem sorts_next {l : List Bs} (h : Sorts l) {k : Nat} {a b : Bs} (ha : l[k]? = some a) (hb : l[k + 1]? = some b) : a < b := by
  obtain ⟨h1, e1⟩ := List.getElem?_eq_some_iff.1 ha
  obtain ⟨h2, e2⟩ := List.getElem?_eq_some_iff.1 hb
  have := List.pairwise_iff_getElem.1 h k (k + 1) h1 h2 (Nat.lt_succ_self _)
  rw [e1, e2] at this
  exact this
set_option maxRecDepth 100000 in
set_option maxHeartbeats 4000000 in
theorem rises_any (v : Value) (l : List Bs) (w : World) (hv : SRow w v l) (hs : Sorts l) (hp : ∀ n ∈ l, Proper n) (hl : l.length ≤ 1000) (hG : HG w) :
    Calls Tryz.prog 63 #[v] w fun e w' => e = .returned (.bool true) ∧ Below w.heap.size w w' := by
  obtain ⟨ao, cap, rfl, _, _, hcell⟩ := hv
  have cN : ∀ W x, Below w.heap.size w W → x ∈ l → Calls Tryz.prog 8 #[.string ⟨x.toArray⟩] W fun e w' => e = .returned (.tuple #[.string ⟨x.toArray⟩, .nilIface]) ∧ Below W.heap.size W w' := fun W x hb hx => by
    have h := hname_any x W (by have := (hnameF_len (hp x hx)).1; omega) (hG.below hb)
    have e : hnameF x = some x := hp x hx
    rw [e] at h
    exact h
  obtain ⟨M, hM⟩ : ∃ M, l.length = M := ⟨_, rfl⟩
  rw [hM] at hl ⊢
  have HCN := Lib.hid cN
  have HC := Lib.hid hcell
  have HSO := Lib.hid hs
  have HM := Lib.hid hM
  clear hcell cN hs hp hG hM
  go_enter Tryz.func63, Tryz.ntmps63
  go_wp2_with fail
  go_loopg [9] M (fun g s9 wr => ∃ k : Nat, k + g = M ∧ s9 = .int .i64 (k : Int) ∧ Hid (Below w.heap.size w wr))
  case atStart => exact ⟨0, by omega, rfl, Below.refl _ _⟩
  case round =>
    obtain ⟨k, hk, rfl, HB⟩ := hrel
    by_cases hlt : k < M
    · obtain ⟨g', rfl⟩ : ∃ g', gk = g' + 1 := ⟨gk - 1, by omega⟩
      obtain ⟨x, hx⟩ : ∃ x, l[k]? = some x := ⟨l[k]'(by rw [HM.out]; exact hlt), List.getElem?_eq_getElem _⟩
      obtain ⟨b, off, hao, hbl, c0⟩ := HC.out k x hx
      subst hao
      have d0 := (HB.out.cell (p := ⟨b, off + k, none⟩) hbl).trans c0
      have cX := HCN.out wr x HB.out (List.mem_of_getElem? hx)
      have hkz : (k : Int) < (M : Int) := by omega
      by_cases hk0 : k = 0
      · have hz : ¬ ((0 : Int) < (k : Int)) := by omega
        clear hx c0 hk0
        go_wp2_with (go_at_call 8; (with_reducible refine cX.mono ?_); rintro e w2 ⟨rfl, h2⟩)
        go_roundg g'
        case measure => omega
        case rel => exact ⟨k + 1, by omega, by go_num, HB.out.trans (h2.mono HB.out.size)⟩
      · obtain ⟨k, rfl⟩ : ∃ k', k = k' + 1 := ⟨k - 1, by omega⟩
        clear hk0
        obtain ⟨y, hy⟩ : ∃ y, l[k]? = some y := ⟨l[k]'(by rw [HM.out]; omega), List.getElem?_eq_getElem _⟩
        obtain ⟨b2, off2, hao2, _, e0⟩ := HC.out k y hy
        obtain ⟨rfl, rfl⟩ : b = b2 ∧ off = off2 := by
          injection hao2 with e
          injection e with e1 e2 _
          exact ⟨e1, e2⟩
        have hless := less_of (sorts_next HSO.out hy hx)
        have hs2 := HB.out.size
        have hc2 : ∀ w2, Below wr.heap.size wr w2 → w2.cell? ⟨b, off + k, none⟩ = some (.string ⟨y.toArray⟩) := fun w2 h => ((HB.out.trans (h.mono hs2)).cell (p := ⟨b, off + k, none⟩) hbl).trans e0
        have hk1 : ((k + 1 : Nat) : Int) = (k : Int) + 1 := by omega
        clear hx hy c0 hao2 e0
        go_wp2_with (go_at_call 8; (with_reducible refine cX.mono ?_); rintro e w2 ⟨rfl, h2⟩; have e0 := hc2 w2 h2)
        go_roundg g'
        case measure => omega
        case rel => exact ⟨k + 1 + 1, by omega, by go_num, HB.out.trans (h2.mono HB.out.size)⟩
    · obtain rfl : k = M := by omega
      go_wp2_with fail
      go_ret
      exact ⟨rfl, HB.out⟩
end Go.Proofs.YtdlfbhbgemoelaaGreatDoor
namespace Go.Proofs.YtdlfbhbgemoelaaGreatDoor
open Go.RowKit Go.Shelf Go.Sort Go.Maps
set_option linter.unusedSimpArgs false

theorem lawN : Keyed Tryz.prog 3 := int_keyed Tryz.underlying3
theorem key_ofN {x : Int} (h0 : 0 ≤ x) (h1 : x ≤ 2147483647) : keyOf Tryz.prog 3 (.int .i64 x) = some (.int .i64 x) := keyOf_int_mk Tryz.underlying3 (WalkArith.wf_i64 (by omega))
theorem intL_ne {x s : Int} (h : x ≠ s) : Lit.int .i64 x ≠ Lit.int .i64 s := fun e => h (by injection e)
/-- the map of numbers that are seen -/
def SeenM (w : World) (M : Nat) (vs : List Int) : Prop := ∃ D : DataW Unit, w.ownsMap Tryz.prog 3 (plainElem Tryz.prog 4) M vs.length D ∧ ∀ x, D.atKey (.int .i64 x) (.lit (.bool false)) = .lit (.bool (decide (x ∈ vs)))
theorem SeenM.kept {w w' : World} {M : Nat} {vs : List Int} {S : Nat → Prop} (h : SeenM w M vs) (hk : Kept S w w') (hM : ¬ S M) : SeenM w' M vs := by
  obtain ⟨D, ⟨es, c, hb, r⟩, h2⟩ := h
  exact ⟨D, ⟨es, c, hk.obj hb hM, r⟩, h2⟩
theorem SeenM.below {w w' : World} {M : Nat} {vs : List Int} (h : SeenM w M vs) (hb : Below w.heap.size w w') : SeenM w' M vs := h.kept (S := fun _ => False) (kept_below hb) id
theorem seen_made (w : World) : SeenM (w.alloc (.map #[] 0)) w.heap.size [] := ⟨_, World.ownsMap_made w _ _ _, fun _ => rfl⟩
theorem seen_look {w : World} {M : Nat} {vs : List Int} (h : SeenM w M vs) {x : Int} (h0 : 0 ≤ x) (h1 : x ≤ 2147483647) (hx : x ∉ vs) : (Instr.lookup 99 (.map (some M)) (.int .i64 x) false).run Tryz.prog w = .ok (.bool false) w := by
  obtain ⟨D, hown, hat⟩ := h
  obtain ⟨v, ps, hrun, hv⟩ := hown.lookup lawN (t := 99) Tryz.underlying99 (zero_yes w) (zd := .lit (.bool false)) (zp := []) (plainElem_bool Tryz.underlying4 false) (key_ofN h0 h1)
  rw [hat, decide_eq_false hx] at hv
  obtain rfl := yes_bool hv
  exact hrun
section
variable (w : World) {ops : Array Oper} {rest : List Oper} {o : Oper} {a : Act} {Q : Exit → Act → World → Prop}
theorem wpList_store_seen (hg : o.guard = none) (m x v : Operand) (hop : o.op = Op.mapUpdate 99 m x v) (M : Nat) (vs : List Int) (hm : a.eval m = .map (some M)) (h : SeenM w M vs)
    (s : Int) (hx : a.eval x = .int .i64 s) (h0 : 0 ≤ s) (h1 : s ≤ 2147483647) (hv : a.eval v = .bool true) (hn : vs.length ≤ 1000000)
    (hK : ∀ w', SeenM w' M (vs ++ [s]) → Kept (fun k => k = M) w w' → wpList Tryz.prog ops Q rest (a.put o.dst undef) w') : wpList Tryz.prog ops Q (o :: rest) a w := by
  have hmx : vs.length < maxLen := by unfold maxLen; omega
  obtain ⟨D, hown, hat⟩ := h
  have hMap := hown.isMap
  refine wpList_mapUpdate_own w hg m x v 99 hop 3 4 lawN Tryz.underlying99 (plainElem Tryz.prog 4) M vs.length D hm hown hmx _ _ (.int .i64 s) hx hv (key_ofN h0 h1) (.lit (.bool true)) [] (plainElem_bool Tryz.underlying4 true) ?_
  intro w' hown' hgr
  refine hK w' ⟨_, by rw [List.length_append, List.length_singleton]; exact hown', fun y => ?_⟩ (Kept.mono (T := fun k => k = M) (kept_grown hgr) (fun k _ e => (Option.some.inj e).symm))
  by_cases hy : y = s
  · subst hy
    rw [atKey_put_same hMap (show WideAt.IsKeyLit (.int .i64 y) from trivial)]
    rw [decide_eq_true (by simp)]
  · rw [atKey_put_other (intL_ne hy), hat]
    have : (y ∈ vs ++ [s]) ↔ y ∈ vs := by simp [hy]
    rw [decide_eq_decide.2 this]
end
/-- the last / of a name: none; or what lies ahead of it -/
theorem last_slash (x : Bs) : Lib.lastIndexByte ⟨x.toArray⟩ 47 = -1 ∨ ∃ i : Nat, Lib.lastIndexByte ⟨x.toArray⟩ 47 = (i : Int) ∧ i < x.length ∧ x = x.take i ++ 47 :: x.drop (i + 1) := by
  rcases Lib.lastIndexByte_spec ⟨x.toArray⟩ 47 with ⟨h, _⟩ | ⟨i, h1, h2, h3, _⟩
  · exact Or.inl h
  · have hl : i < x.length := by rw [← text_size x]; exact h1
    refine Or.inr ⟨i, h2, hl, ?_⟩
    have e : x[i] = 47 := by
      have : ((x[i]).toNat : Int) = 47 := by simpa [hl] using h3
      have h47 : (47 : UInt8).toNat = 47 := rfl
      exact UInt8.toNat.inj (by omega)
    rw [← e, ← List.drop_eq_getElem_cons hl, List.take_append_drop]
def validsP (p : HouP) (k : Nat) : List Int := (p.L.take k).map fun x => (p.c x).valid
theorem valids_step {p : HouP} {k : Nat} {x : Bs} (hx : p.L[k]? = some x) : validsP p (k + 1) = validsP p k ++ [(p.c x).valid] := by
  unfold validsP
  rw [List.take_add_one, hx]
  simp
theorem valids_not {p : HouP} (hg : Good p) {k : Nat} {x : Bs} (hx : p.L[k]? = some x) : (p.c x).valid ∉ validsP p k := fun h => by
  obtain ⟨y, hy, e⟩ := List.mem_map.1 h
  have hyL := List.mem_of_mem_take hy
  have := hg.inj y hyL x (List.mem_of_getElem? hx) e
  exact nodup_at hg.sorts.nodup hx (this ▸ hy)
set_option maxRecDepth 100000 in
set_option maxHeartbeats 8000000 in
theorem hright_any (N : Nat) (p : HouP) (B : Int) (w : World) (na ba wa : Option Addr) (M nc bc MW wc : Nat) (nx : Int) (hr : SRow w (.slice na M nc) p.L ∧ BRow N w (.slice ba M bc) (p.L.map p.c) ∧ SRow w (.slice wa MW wc) p.W) (hM : p.L.length = M) (hMW : p.W.length = MW) (hnx : p.next = nx) (hF : Full p B) (hB : B ≤ 2147483647) (hG : HG w) (hFl : FlagG w) :
    Calls Tryz.prog 41 #[.agg #[.slice na M nc, .slice ba M bc, .slice wa MW wc, .int .i64 nx]] w fun e w' => e = .returned (.bool true) ∧ Below w.heap.size w w' := by
  have hmm := @run_makeMap Tryz.prog
  obtain ⟨W1, hW1⟩ : ∃ W1, w.alloc (.cells #[.slice na M nc, .slice ba M bc, .slice wa MW wc, .int .i64 nx] 41) = W1 := ⟨_, rfl⟩
  have y1 : Below w.heap.size w W1 := hW1 ▸ (Below.refl _ _).alloc (Nat.le_refl _) _
  have x1 : W1.heap[w.heap.size]? = some (.cells #[.slice na M nc, .slice ba M bc, .slice wa MW wc, .int .i64 nx] 41 (0, 0)) := hW1 ▸ World.heap_alloc_new w _
  have hs1 : w.heap.size < W1.heap.size := by rw [← hW1, alloc_size]; exact Nat.lt_succ_self _
  obtain ⟨k0, k1, k2, k3⟩ := four_cells x1
  have hM30 : M ≤ 30 := hM ▸ hF.inb.many
  have hW60 : MW ≤ 60 := hMW ▸ hF.inb.wants
  have hn1 : 1 ≤ nx := hnx ▸ hF.good.one
  have hn2 : nx ≤ 2147483647 := hnx ▸ Int.le_trans hF.inb.hi hB
  have hcell : ∀ W, Below W1.heap.size W1 W → W.cell? ⟨w.heap.size, 0, none⟩ = some (.slice na M nc) ∧ W.cell? ⟨w.heap.size, 1, none⟩ = some (.slice ba M bc) ∧ W.cell? ⟨w.heap.size, 2, none⟩ = some (.slice wa MW wc) ∧ W.cell? ⟨w.heap.size, 3, none⟩ = some (.int .i64 nx) := fun W h => four_cells ((h.block _ hs1).trans x1)
  have hyw : ∀ {W}, Below W1.heap.size W1 W → Below w.heap.size w W := fun h => y1.trans (h.mono y1.size)
  have cRn : Calls Tryz.prog 63 #[.slice na M nc] W1 fun e w' => e = .returned (.bool true) ∧ Below W1.heap.size W1 w' := rises_any _ p.L W1 (hr.1.below y1) hF.good.sorts hF.named.name (by omega) (hG.below y1)
  have cRw : ∀ W, Below W1.heap.size W1 W → Calls Tryz.prog 63 #[.slice wa MW wc] W fun e w' => e = .returned (.bool true) ∧ Below W.heap.size W w' := fun W h => rises_any _ p.W W (hr.2.2.below (hyw h)) hF.named.sorts hF.named.want (by omega) (hG.below (hyw h))
  have cCo : ∀ W t, Below W1.heap.size W1 W → t ∈ p.L → Calls Tryz.prog 64 #[.slice na M nc, .string ⟨t.toArray⟩] W fun e w' => e = .returned (.bool true) ∧ W = w' := fun W t h ht => by
    have := contains_any _ p.L t W (hr.1.below (hyw h)) (by omega)
    rw [decide_eq_true ht] at this
    exact this
  have cIn : ∀ W, Below W1.heap.size W1 W → Calls Tryz.prog 64 #[.slice na M nc, .string ⟨#[73, 78, 66, 79, 88]⟩] W fun e w' => e = .returned (.bool true) ∧ W = w' := fun W h => cCo W inboxB h hF.named.inbox
  have HCE := Lib.hid hcell
  have HF := Lib.hid hF
  have HRW := Lib.hid hr
  have HM := Lib.hid hM
  have HCO := Lib.hid cCo
  have HNX := Lib.hid hnx
  have HY1 := Lib.hid y1
  have HGW := Lib.hid hG
  have HFG := Lib.hid hFl
  clear hF hr hM hMW hnx x1 y1 hcell hyw cCo hG hFl
  go_enter Tryz.func41, Tryz.ntmps41
  go_upto_region 4 with (first
    | (go_at_call 63; (with_reducible refine cRn.mono ?_); rintro e w2 ⟨rfl, h2⟩; obtain ⟨d0, d1, d2, d3⟩ := HCE.out _ h2)
    | (go_at_call 63; (with_reducible refine (cRw _ h2).mono ?_); rintro e w3 ⟨rfl, h3⟩; have h3 := h2.trans (h3.mono h2.size); obtain ⟨d0, d1, d2, d3⟩ := HCE.out _ h3)
    | (go_at_call 64; (with_reducible refine (cIn _ h3).mono ?_); rintro e w4 ⟨rfl, hw4⟩; subst hw4))
  obtain ⟨W4, hW4⟩ : ∃ W4, w3.alloc (.map #[] 0) = W4 := ⟨_, rfl⟩
  rw [hW4]
  have y4 : Below W1.heap.size W1 W4 := hW4 ▸ h3.alloc h3.size _
  have hsm : SeenM W4 w3.heap.size [] := hW4 ▸ seen_made w3
  have hsz3 := h3.size
  obtain ⟨MB, hMB⟩ : ∃ MB, w3.heap.size = MB := ⟨_, rfl⟩
  rw [hMB] at hsm hsz3 ⊢
  obtain ⟨d0, d1, d2, d3⟩ := HCE.out _ y4
  have HY4 := Lib.hid y4
  have HSM : Hid (SeenM W4 MB (validsP p 0)) := Lib.hid hsm
  have HMB := Lib.hid hsz3
  clear hW4 hMB y4 hsm hsz3 h2 h3 cRn cRw cIn hmm k0 k1 k2 k3
  go_wp2_with fail
  go_loopg [59] M (fun g s59 wr => ∃ k : Nat, k + g = M ∧ s59 = .int .i64 (k : Int) ∧ Hid (SeenM wr MB (validsP p k)) ∧ Hid (Below W1.heap.size W1 wr))
  case atStart => exact ⟨0, by omega, rfl, HSM, HY4⟩
  case round =>
    obtain ⟨k, hk, rfl, HS, HB⟩ := hrel
    clear HSM HY4
    obtain ⟨d0, d1, d2, d3⟩ := HCE.out _ HB.out
    have hbw := HY1.out.trans (HB.out.mono HY1.out.size)
    by_cases hlt : k < M
    · obtain ⟨g', rfl⟩ : ∃ g', gk = g' + 1 := ⟨gk - 1, by omega⟩
      have hltL : k < p.L.length := by rw [HM.out]; exact hlt
      obtain ⟨x, hx⟩ : ∃ x, p.L[k]? = some x := ⟨p.L[k], List.getElem?_eq_getElem hltL⟩
      have hxL := List.mem_of_getElem? hx
      obtain ⟨ao, cap, hao, _, _, hnc⟩ := HRW.out.1
      obtain ⟨nb, noff, hae, hnb, n0⟩ := hnc k x hx
      obtain rfl : na = some ⟨nb, noff, none⟩ := by
        injection hao with e _ _
        rw [e, hae]
      obtain ⟨ao2, cap2, hao2, _, _, hbc⟩ := HRW.out.2.1
      obtain ⟨bb, boff, lv, zs, hbe, hbb, b0, b1, b2, hzs, hxr⟩ := hbc k (p.c x) (by rw [List.getElem?_map, hx]; rfl)
      obtain rfl : ba = some ⟨bb, boff, none⟩ := by
        injection hao2 with e _ _
        rw [e, hbe]
      have hxr2 := hxr.below hbw
      obtain ⟨la, lc, rfl, _⟩ := hxr.1
      have m0 := (hbw.cell (p := ⟨nb, _, none⟩) hnb).trans n0
      have q0 := (hbw.cell (p := ⟨bb, _, none⟩) hbb).trans b0
      have q1 := (hbw.cell (p := ⟨bb, _, none⟩) hbb).trans b1
      have q2 := (hbw.cell (p := ⟨bb, _, none⟩) hbb).trans b2
      have hxl := (hnameF_len (HF.out.named.name x hxL)).1
      have hri := HF.out.good.right x hxL
      have hvp := (right_parts hri).2.1
      unfold maxN at hvp
      have hvn : (p.c x).valid < nx := HNX.out ▸ HF.out.good.low x hxL
      have hnot := valids_not HF.out.good hx
      have hstep := valids_step hx
      obtain ⟨w5, hw5⟩ : ∃ w5, wr.alloc (.cells #[.int .i64 (p.c x).valid, .int .i64 (p.c x).next, .slice la zs.length lc] 48) = w5 := ⟨_, rfl⟩
      have b5 : Below wr.heap.size wr w5 := hw5 ▸ (Below.refl _ _).alloc (Nat.le_refl _) _
      have x5 : w5.heap[wr.heap.size]? = some (.cells #[.int .i64 (p.c x).valid, .int .i64 (p.c x).next, .slice la zs.length lc] 48 (0, 0)) := hw5 ▸ World.heap_alloc_new wr _
      have hs5 : wr.heap.size < w5.heap.size := by rw [← hw5, alloc_size]; exact Nat.lt_succ_self _
      obtain ⟨BB, hBB⟩ : ∃ BB, wr.heap.size = BB := ⟨_, rfl⟩
      have y5 : Below W1.heap.size W1 w5 := HB.out.trans (b5.mono HB.out.size)
      have hS5 := HS.out.below b5
      have tx := text_size x
      have hkz : (k : Int) < (M : Int) := by omega
      have cL := Tryz.strings_LastIndexByte ⟨x.toArray⟩ 47 (by rw [tx]; omega) w5
      have cBr : ∀ W, Below w5.heap.size w5 W → Calls Tryz.prog 65 #[.agg #[.int .i64 (p.c x).valid, .int .i64 (p.c x).next, .slice la zs.length lc]] W fun e w' => e = .returned (.bool true) ∧ Below W.heap.size W w' := fun W h => right_any (p.c x) _ W (hzs ▸ lrow_of ((hxr2.below (b5.trans (h.mono b5.size))).1)) hri (HFG.out.below (hbw.trans ((b5.trans (h.mono b5.size)).mono hbw.size)))
      have hfc : ∀ W, Below w5.heap.size w5 W → (W.cell? ⟨BB, 0, none⟩ = some (.int .i64 (p.c x).valid) ∧ W.cell? ⟨BB, 1, none⟩ = some (.int .i64 (p.c x).next) ∧ W.cell? ⟨BB, 2, none⟩ = some (.slice la zs.length lc)) ∧ (W.cell? ⟨w.heap.size, 0, none⟩ = some (.slice (some ⟨nb, noff, none⟩) M nc) ∧ W.cell? ⟨w.heap.size, 3, none⟩ = some (.int .i64 nx)) ∧ (Instr.lookup 99 (.map (some MB)) (.int .i64 (p.c x).valid) false).run Tryz.prog W = .ok (.bool false) W ∧ Hid (SeenM W MB (validsP p k)) ∧ Below W1.heap.size W1 W := fun W h => by
        have hy := y5.trans (h.mono y5.size)
        obtain ⟨e0, _, _, e3⟩ := HCE.out W hy
        rw [hBB] at x5 hs5
        exact ⟨three_cells ((h.block BB hs5).trans x5), ⟨e0, e3⟩, seen_look (hS5.below h) (by omega) hvp.2 hnot, hS5.below h, hy⟩
      have HBB := Lib.hid hBB
      have HFC := Lib.hid hfc
      have HST := Lib.hid hstep
      have hup : ∀ i, i < x.length → x = x.take i ++ 47 :: x.drop (i + 1) → x.take i ∈ p.L := fun i _ e => HF.out.named.up (x.take i) (x.drop (i + 1)) (e ▸ hxL)
      obtain ⟨bxv, hbxv⟩ : ∃ v, (p.c x).valid = v := ⟨_, rfl⟩
      obtain ⟨bxn, hbxn⟩ : ∃ v, (p.c x).next = v := ⟨_, rfl⟩
      rw [hbxv] at q0 hw5 hvp hvn cBr hfc hstep
      rw [hbxn] at q1 hw5 cBr hfc
      have HVP := Lib.hid hvp
      have HST := Lib.hid hstep
      have HFC := Lib.hid hfc
      have hvl : (validsP p k).length ≤ 1000000 := by unfold validsP; rw [List.length_map, List.length_take]; omega
      have hW5 : W1.heap.size ≤ w5.heap.size := y5.size
      have hls := last_slash x
      obtain ⟨K, hK⟩ : ∃ K, Lib.lastIndexByte ⟨x.toArray⟩ 47 = K := ⟨_, rfl⟩
      rw [hK] at cL hls
      clear hx hao hae hnc hao2 hbe hbc b0 b1 b2 n0 hzs hxr hxr2 x5 b5 hs5 hbxv hbxn hri hS5 hnot hstep hvp hK hxL hbw
      go_upto_region 9 with (go_at_call 9; with_reducible refine cL.mono ?_; rintro e w6 ⟨rfl, hw6⟩; rw [hw6]; clear hw6)
      clear m0 q0 q1 q2 d0 d1 d2 d3 cL
      go_cut [99] (fun s99 wx => s99 = .bool false ∧ Hid (Below w5.heap.size w5 wx))
      case first =>
        have y : Below w5.heap.size w5 w5 := Below.refl _ _
        have hvd : decide (nx ≤ bxv) = false := decide_eq_false (by omega)
        have KEEP : Hid (∀ W, Below w5.heap.size w5 W → (W.cell? ⟨BB, 0, none⟩ = some (.int .i64 bxv) ∧ W.cell? ⟨BB, 1, none⟩ = some (.int .i64 bxn) ∧ W.cell? ⟨BB, 2, none⟩ = some (.slice la zs.length lc)) ∧ (W.cell? ⟨w.heap.size, 0, none⟩ = some (.slice (some ⟨nb, noff, none⟩) M nc) ∧ W.cell? ⟨w.heap.size, 3, none⟩ = some (.int .i64 nx)) ∧ (Instr.lookup 99 (.map (some MB)) (.int .i64 bxv) false).run Tryz.prog W = .ok (.bool false) W) := Lib.hid fun W h => ⟨(hfc W h).1, (hfc W h).2.1, (hfc W h).2.2.1⟩
        have hyW : ∀ W, Below w5.heap.size w5 W → Below W1.heap.size W1 W := fun W h => (hfc W h).2.2.2.2
        rcases hls with rfl | ⟨i, rfl, hil, he⟩
        · clear hfc hup
          have yd := y.drew
          refine wp_region_held_drew (S := fun W => (W.cell? ⟨BB, 0, none⟩ = some (.int .i64 bxv) ∧ W.cell? ⟨BB, 1, none⟩ = some (.int .i64 bxn) ∧ W.cell? ⟨BB, 2, none⟩ = some (.slice la zs.length lc)) ∧ (W.cell? ⟨w.heap.size, 0, none⟩ = some (.slice (some ⟨nb, noff, none⟩) M nc) ∧ W.cell? ⟨w.heap.size, 3, none⟩ = some (.int .i64 nx)) ∧ (Instr.lookup 99 (.map (some MB)) (.int .i64 bxv) false).run Tryz.prog W = .ok (.bool false) W) (by kernel_rfl) (KEEP.out _ yd) (fun hHeld => ?_)
          generalize w5.drew = wd at *
          refine wpAnyH_take (i := 0) (oi := ⟨_, _, _, _, _, _⟩) (v := ?hv30) rfl (by kernel_rfl) (by kernel_rfl) (by kernel_rfl) (fun _ _ _ h => h) (Or.inl ⟨by rfl, ?hy30⟩) hHeld ?hr30
          case hy30 => (intro W hSw; (try dsimp only at hSw); go_simp; try with_reducible rfl)
          try simp only [Act.put, List.setIfInBounds_toArray, List.set_cons_zero, List.set_cons_succ]
          refine wpAnyH_ready (rs := [1]) (by kernel_rfl) (by simp) ?_
          refine AllReadyH.cons (o := ⟨_, _, _, _, _, _⟩) rfl (fun K hK => ?hs31) ?hm31
          case hs31 =>
            go_simp
            (with_reducible refine (cBr _ yd).mono ?_)
            rintro e u1 ⟨rfl, h1⟩
            have y1 := yd.trans (h1.mono yd.size)
            go_wp2_with fail
            refine hK.out _ _ ?hS31 (fun hHeld => ?hR31)
            case hS31 => exact KEEP.out _ y1
            clear hK K
            try simp only [Act.put, List.setIfInBounds_toArray, List.set_cons_zero, List.set_cons_succ]
            refine wpAnyH_take (i := 2) (oi := ⟨_, _, _, _, _, _⟩) (v := ?hv32) rfl (by kernel_rfl) (by kernel_rfl) (by kernel_rfl) (fun _ _ _ h => h) (Or.inl ⟨by rfl, ?hy32⟩) hHeld ?hr32
            case hy32 => (intro W hSw; (try dsimp only at hSw); go_simp; try with_reducible rfl)
            try simp only [Act.put, List.setIfInBounds_toArray, List.set_cons_zero, List.set_cons_succ]
            refine wpAnyH_take (i := 3) (oi := ⟨_, _, _, _, _, _⟩) (v := ?hv33) rfl (by kernel_rfl) (by kernel_rfl) (by kernel_rfl) (fun _ _ _ h => h) (Or.inl ⟨by rfl, ?hy33⟩) hHeld ?hr33
            case hy33 => (intro W hSw; (try dsimp only at hSw); go_simp; try with_reducible rfl)
            try simp only [Act.put, List.setIfInBounds_toArray, List.set_cons_zero, List.set_cons_succ]
            refine wpAnyH_take (i := 4) (oi := ⟨_, _, _, _, _, _⟩) (v := ?hv34) rfl (by kernel_rfl) (by kernel_rfl) (by kernel_rfl) (fun _ _ _ h => h) (Or.inl ⟨by rfl, ?hy34⟩) hHeld ?hr34
            case hy34 => (intro W hSw; (try dsimp only at hSw); go_simp; try with_reducible rfl)
            try simp only [Act.put, List.setIfInBounds_toArray, List.set_cons_zero, List.set_cons_succ]
            refine wpAnyH_take (i := 5) (oi := ⟨_, _, _, _, _, _⟩) (v := ?hv35) rfl (by kernel_rfl) (by kernel_rfl) (by kernel_rfl) (fun _ _ _ h => h) (Or.inl ⟨by rfl, ?hy35⟩) hHeld ?hr35
            case hy35 => (intro W hSw; (try dsimp only at hSw); go_simp; try with_reducible rfl)
            try simp only [Act.put, List.setIfInBounds_toArray, List.set_cons_zero, List.set_cons_succ]
            refine wpAnyH_take (i := 6) (oi := ⟨_, _, _, _, _, _⟩) (v := ?hv36) rfl (by kernel_rfl) (by kernel_rfl) (by kernel_rfl) (fun _ _ _ h => h) (Or.inl ⟨by rfl, ?hy36⟩) hHeld ?hr36
            case hy36 => (intro W hSw; (try dsimp only at hSw); go_simp; try with_reducible rfl)
            try simp only [Act.put, List.setIfInBounds_toArray, List.set_cons_zero, List.set_cons_succ]
            refine wpAnyH_take (i := 7) (oi := ⟨_, _, _, _, _, _⟩) (v := ?hv37) rfl (by kernel_rfl) (by kernel_rfl) (by kernel_rfl) (fun _ _ _ h => h) (Or.inl ⟨by rfl, ?hy37⟩) hHeld ?hr37
            case hy37 => (intro W hSw; (try dsimp only at hSw); go_simp; try with_reducible rfl)
            try simp only [Act.put, List.setIfInBounds_toArray, List.set_cons_zero, List.set_cons_succ]
            refine wpAnyH_take (i := 8) (oi := ⟨_, _, _, _, _, _⟩) (v := ?hv38) rfl (by kernel_rfl) (by kernel_rfl) (by kernel_rfl) (fun _ _ _ h => h) (Or.inl ⟨by rfl, ?hy38⟩) hHeld ?hr38
            case hy38 => (intro W hSw; (try dsimp only at hSw); go_simp; try with_reducible rfl)
            try simp only [Act.put, List.setIfInBounds_toArray, List.set_cons_zero, List.set_cons_succ]
            refine wpAnyH_take (i := 9) (oi := ⟨_, _, _, _, _, _⟩) (v := ?hv39) rfl (by kernel_rfl) (by kernel_rfl) (by kernel_rfl) (fun _ _ _ h => h) (Or.inl ⟨by rfl, ?hy39⟩) hHeld ?hr39
            case hy39 => (intro W hSw; (try dsimp only at hSw); go_simp; try with_reducible rfl)
            try simp only [Act.put, List.setIfInBounds_toArray, List.set_cons_zero, List.set_cons_succ]
            refine wpAnyH_take (i := 10) (oi := ⟨_, _, _, _, _, _⟩) (v := ?hv40) rfl (by kernel_rfl) (by kernel_rfl) (by kernel_rfl) (fun _ _ _ h => h) (Or.inl ⟨by rfl, ?hy40⟩) hHeld ?hr40
            case hy40 => (intro W hSw; (try dsimp only at hSw); go_simp; try with_reducible rfl)
            try simp only [Act.put, List.setIfInBounds_toArray, List.set_cons_zero, List.set_cons_succ]
            refine wpAnyH_take (i := 11) (oi := ⟨_, _, _, _, _, _⟩) (v := ?hv41) rfl (by kernel_rfl) (by kernel_rfl) (by kernel_rfl) (fun _ _ _ h => h) (Or.inl ⟨by rfl, ?hy41⟩) hHeld ?hr41
            case hy41 => (intro W hSw; (try dsimp only at hSw); go_simp; try with_reducible rfl)
            try simp only [Act.put, List.setIfInBounds_toArray, List.set_cons_zero, List.set_cons_succ]
            refine wpAnyH_take (i := 12) (oi := ⟨_, _, _, _, _, _⟩) (v := ?hv42) rfl (by kernel_rfl) (by kernel_rfl) (by kernel_rfl) (fun _ _ _ h => h) (Or.inl ⟨by rfl, ?hy42⟩) hHeld ?hr42
            case hy42 => (intro W hSw; (try dsimp only at hSw); go_simp; try with_reducible rfl)
            try simp only [Act.put, List.setIfInBounds_toArray, List.set_cons_zero, List.set_cons_succ]
            refine wpAnyH_take (i := 13) (oi := ⟨_, _, _, _, _, _⟩) (v := ?hv43) rfl (by kernel_rfl) (by kernel_rfl) (by kernel_rfl) (fun _ _ _ h => h) (Or.inl ⟨by rfl, ?hy43⟩) hHeld ?hr43
            case hy43 => (intro W hSw; (try dsimp only at hSw); go_simp; try with_reducible rfl)
            try simp only [Act.put, List.setIfInBounds_toArray, List.set_cons_zero, List.set_cons_succ]
            refine wpAnyH_take (i := 14) (oi := ⟨_, _, _, _, _, _⟩) (v := ?hv44) rfl (by kernel_rfl) (by kernel_rfl) (by kernel_rfl) (fun _ _ _ h => h) (Or.inl ⟨by rfl, ?hy44⟩) hHeld ?hr44
            case hy44 => (intro W hSw; (try dsimp only at hSw); go_simp; try with_reducible rfl)
            try simp only [Act.put, List.setIfInBounds_toArray, List.set_cons_zero, List.set_cons_succ]
            refine wpAnyH_take (i := 15) (oi := ⟨_, _, _, _, _, _⟩) (v := ?hv45) rfl (by kernel_rfl) (by kernel_rfl) (by kernel_rfl) (fun _ _ _ h => h) (Or.inl ⟨by rfl, ?hy45⟩) hHeld ?hr45
            case hy45 => (intro W hSw; (try dsimp only at hSw); go_simp; try with_reducible rfl)
            try simp only [Act.put, List.setIfInBounds_toArray, List.set_cons_zero, List.set_cons_succ]
            refine wpAnyH_take (i := 16) (oi := ⟨_, _, _, _, _, _⟩) (v := ?hv46) rfl (by kernel_rfl) (by kernel_rfl) (by kernel_rfl) (fun _ _ _ h => h) (Or.inl ⟨by rfl, ?hy46⟩) hHeld ?hr46
            case hy46 => (intro W hSw; (try dsimp only at hSw); go_simp; try with_reducible rfl)
            try simp only [Act.put, List.setIfInBounds_toArray, List.set_cons_zero, List.set_cons_succ]
            refine wpAnyH_take (i := 17) (oi := ⟨_, _, _, _, _, _⟩) (v := ?hv47) rfl (by kernel_rfl) (by kernel_rfl) (by kernel_rfl) (fun _ _ _ h => h) (Or.inl ⟨by rfl, ?hy47⟩) hHeld ?hr47
            case hy47 => (intro W hSw; (try dsimp only at hSw); go_simp; try with_reducible rfl)
            try simp only [Act.put, List.setIfInBounds_toArray, List.set_cons_zero, List.set_cons_succ]
            refine wpAnyH_take (i := 18) (oi := ⟨_, _, _, _, _, _⟩) (v := ?hv48) rfl (by kernel_rfl) (by kernel_rfl) (by kernel_rfl) (fun _ _ _ h => h) (Or.inl ⟨by rfl, ?hy48⟩) hHeld ?hr48
            case hy48 => (intro W hSw; (try dsimp only at hSw); go_simp; try with_reducible rfl)
            try simp only [Act.put, List.setIfInBounds_toArray, List.set_cons_zero, List.set_cons_succ]
            refine wpAnyH_take (i := 19) (oi := ⟨_, _, _, _, _, _⟩) (v := ?hv49) rfl (by kernel_rfl) (by kernel_rfl) (by kernel_rfl) (fun _ _ _ h => h) (Or.inl ⟨by rfl, ?hy49⟩) hHeld ?hr49
            case hy49 => (intro W hSw; (try dsimp only at hSw); go_simp; try with_reducible rfl)
            try simp only [Act.put, List.setIfInBounds_toArray, List.set_cons_zero, List.set_cons_succ]
            refine wpAnyH_take (i := 20) (oi := ⟨_, _, _, _, _, _⟩) (v := undef) rfl (by kernel_rfl) (by kernel_rfl) (by kernel_rfl) (fun _ _ _ h => h) (Or.inr ⟨by rfl, rfl⟩) hHeld ?hr50
            try simp only [Act.put, List.setIfInBounds_toArray, List.set_cons_zero, List.set_cons_succ]
            refine wpAnyH_take (i := 21) (oi := ⟨_, _, _, _, _, _⟩) (v := undef) rfl (by kernel_rfl) (by kernel_rfl) (by kernel_rfl) (fun _ _ _ h => h) (Or.inr ⟨by rfl, rfl⟩) hHeld ?hr51
            try simp only [Act.put, List.setIfInBounds_toArray, List.set_cons_zero, List.set_cons_succ]
            refine wpAnyH_take (i := 22) (oi := ⟨_, _, _, _, _, _⟩) (v := undef) rfl (by kernel_rfl) (by kernel_rfl) (by kernel_rfl) (fun _ _ _ h => h) (Or.inr ⟨by rfl, rfl⟩) hHeld ?hr52
            try simp only [Act.put, List.setIfInBounds_toArray, List.set_cons_zero, List.set_cons_succ]
            refine wpAnyH_take (i := 23) (oi := ⟨_, _, _, _, _, _⟩) (v := undef) rfl (by kernel_rfl) (by kernel_rfl) (by kernel_rfl) (fun _ _ _ h => h) (Or.inr ⟨by rfl, rfl⟩) hHeld ?hr53
            try simp only [Act.put, List.setIfInBounds_toArray, List.set_cons_zero, List.set_cons_succ]
            refine wpAnyH_take (i := 24) (oi := ⟨_, _, _, _, _, _⟩) (v := undef) rfl (by kernel_rfl) (by kernel_rfl) (by kernel_rfl) (fun _ _ _ h => h) (Or.inr ⟨by rfl, rfl⟩) hHeld ?hr54
            try simp only [Act.put, List.setIfInBounds_toArray, List.set_cons_zero, List.set_cons_succ]
            refine wpAnyH_take (i := 25) (oi := ⟨_, _, _, _, _, _⟩) (v := undef) rfl (by kernel_rfl) (by kernel_rfl) (by kernel_rfl) (fun _ _ _ h => h) (Or.inr ⟨by rfl, rfl⟩) hHeld ?hr55
            try simp only [Act.put, List.setIfInBounds_toArray, List.set_cons_zero, List.set_cons_succ]
            refine wpAnyH_take (i := 26) (oi := ⟨_, _, _, _, _, _⟩) (v := undef) rfl (by kernel_rfl) (by kernel_rfl) (by kernel_rfl) (fun _ _ _ h => h) (Or.inr ⟨by rfl, rfl⟩) hHeld ?hr56
            try simp only [Act.put, List.setIfInBounds_toArray, List.set_cons_zero, List.set_cons_succ]
            refine wpAnyH_take (i := 27) (oi := ⟨_, _, _, _, _, _⟩) (v := ?hv57) rfl (by kernel_rfl) (by kernel_rfl) (by kernel_rfl) (fun _ _ _ h => h) (Or.inl ⟨by rfl, ?hy57⟩) hHeld ?hr57
            case hy57 => (intro W hSw; (try dsimp only at hSw); go_simp; try with_reducible rfl)
            try simp only [Act.put, List.setIfInBounds_toArray, List.set_cons_zero, List.set_cons_succ]
            refine wpAnyH_take (i := 28) (oi := ⟨_, _, _, _, _, _⟩) (v := ?hv58) rfl (by kernel_rfl) (by kernel_rfl) (by kernel_rfl) (fun _ _ _ h => h) (Or.inl ⟨by rfl, ?hy58⟩) hHeld ?hr58
            case hy58 => (intro W hSw; (try dsimp only at hSw); go_simp; try with_reducible rfl)
            try simp only [Act.put, List.setIfInBounds_toArray, List.set_cons_zero, List.set_cons_succ]
            refine wpAnyH_done (by kernel_rfl) ?_ _
            go_wp2_with fail
            go_meet
            exact ⟨rfl, y1⟩
          case hm31 => exact AllReadyH.nil
        · have hti := hup i hil he
          have hsl : ∀ W : World, (Instr.slice 9 (.string ⟨x.toArray⟩) none (some (.int .i64 (i : Int))) none).run Tryz.prog W = .ok (.string ⟨(x.take i).toArray⟩) W := fun W => by
            rw [run_slice_string_to_if W 9 ⟨x.toArray⟩ .i64 (i : Int) Tryz.underlying9, if_pos (by rw [tx]; constructor <;> omega), Int.toNat_natCast, text_part]
            simp
          have hi0 : decide ((0 : Int) ≤ (i : Int)) = true := decide_eq_true (by omega)
          obtain ⟨t, ht⟩ : ∃ t, x.take i = t := ⟨_, rfl⟩
          rw [ht] at hsl hti
          have cCt := fun W (h : Below w5.heap.size w5 W) => HCO.out W t (hyW W h) hti
          clear hfc hup he ht hti
          have yd := y.drew
          refine wp_region_held_drew (S := fun W => (W.cell? ⟨BB, 0, none⟩ = some (.int .i64 bxv) ∧ W.cell? ⟨BB, 1, none⟩ = some (.int .i64 bxn) ∧ W.cell? ⟨BB, 2, none⟩ = some (.slice la zs.length lc)) ∧ (W.cell? ⟨w.heap.size, 0, none⟩ = some (.slice (some ⟨nb, noff, none⟩) M nc) ∧ W.cell? ⟨w.heap.size, 3, none⟩ = some (.int .i64 nx)) ∧ (Instr.lookup 99 (.map (some MB)) (.int .i64 bxv) false).run Tryz.prog W = .ok (.bool false) W) (by kernel_rfl) (KEEP.out _ yd) (fun hHeld => ?_)
          generalize w5.drew = wd at *
          refine wpAnyH_take (i := 0) (oi := ⟨_, _, _, _, _, _⟩) (v := ?hv1) rfl (by kernel_rfl) (by kernel_rfl) (by kernel_rfl) (fun _ _ _ h => h) (Or.inl ⟨by rfl, ?hy1⟩) hHeld ?hr1
          case hy1 => (intro W hSw; (try dsimp only at hSw); go_simp; try with_reducible rfl)
          try simp only [Act.put, List.setIfInBounds_toArray, List.set_cons_zero, List.set_cons_succ]
          refine wpAnyH_ready (rs := [1]) (by kernel_rfl) (by simp) ?_
          refine AllReadyH.cons (o := ⟨_, _, _, _, _, _⟩) rfl (fun K hK => ?hs2) ?hm2
          case hs2 =>
            go_simp
            (with_reducible refine (cBr _ yd).mono ?_)
            rintro e u1 ⟨rfl, h1⟩
            have y1 := yd.trans (h1.mono yd.size)
            go_wp2_with fail
            refine hK.out _ _ ?hS2 (fun hHeld => ?hR2)
            case hS2 => exact KEEP.out _ y1
            clear hK K
            try simp only [Act.put, List.setIfInBounds_toArray, List.set_cons_zero, List.set_cons_succ]
            refine wpAnyH_take (i := 2) (oi := ⟨_, _, _, _, _, _⟩) (v := ?hv3) rfl (by kernel_rfl) (by kernel_rfl) (by kernel_rfl) (fun _ _ _ h => h) (Or.inl ⟨by rfl, ?hy3⟩) hHeld ?hr3
            case hy3 => (intro W hSw; (try dsimp only at hSw); go_simp; try with_reducible rfl)
            try simp only [Act.put, List.setIfInBounds_toArray, List.set_cons_zero, List.set_cons_succ]
            refine wpAnyH_take (i := 3) (oi := ⟨_, _, _, _, _, _⟩) (v := ?hv4) rfl (by kernel_rfl) (by kernel_rfl) (by kernel_rfl) (fun _ _ _ h => h) (Or.inl ⟨by rfl, ?hy4⟩) hHeld ?hr4
            case hy4 => (intro W hSw; (try dsimp only at hSw); go_simp; try with_reducible rfl)
            try simp only [Act.put, List.setIfInBounds_toArray, List.set_cons_zero, List.set_cons_succ]
            refine wpAnyH_take (i := 4) (oi := ⟨_, _, _, _, _, _⟩) (v := ?hv5) rfl (by kernel_rfl) (by kernel_rfl) (by kernel_rfl) (fun _ _ _ h => h) (Or.inl ⟨by rfl, ?hy5⟩) hHeld ?hr5
            case hy5 => (intro W hSw; (try dsimp only at hSw); go_simp; try with_reducible rfl)
            try simp only [Act.put, List.setIfInBounds_toArray, List.set_cons_zero, List.set_cons_succ]
            refine wpAnyH_take (i := 5) (oi := ⟨_, _, _, _, _, _⟩) (v := ?hv6) rfl (by kernel_rfl) (by kernel_rfl) (by kernel_rfl) (fun _ _ _ h => h) (Or.inl ⟨by rfl, ?hy6⟩) hHeld ?hr6
            case hy6 => (intro W hSw; (try dsimp only at hSw); go_simp; try with_reducible rfl)
            try simp only [Act.put, List.setIfInBounds_toArray, List.set_cons_zero, List.set_cons_succ]
            refine wpAnyH_take (i := 6) (oi := ⟨_, _, _, _, _, _⟩) (v := ?hv7) rfl (by kernel_rfl) (by kernel_rfl) (by kernel_rfl) (fun _ _ _ h => h) (Or.inl ⟨by rfl, ?hy7⟩) hHeld ?hr7
            case hy7 => (intro W hSw; (try dsimp only at hSw); go_simp; try with_reducible rfl)
            try simp only [Act.put, List.setIfInBounds_toArray, List.set_cons_zero, List.set_cons_succ]
            refine wpAnyH_take (i := 7) (oi := ⟨_, _, _, _, _, _⟩) (v := ?hv8) rfl (by kernel_rfl) (by kernel_rfl) (by kernel_rfl) (fun _ _ _ h => h) (Or.inl ⟨by rfl, ?hy8⟩) hHeld ?hr8
            case hy8 => (intro W hSw; (try dsimp only at hSw); go_simp; try with_reducible rfl)
            try simp only [Act.put, List.setIfInBounds_toArray, List.set_cons_zero, List.set_cons_succ]
            refine wpAnyH_take (i := 8) (oi := ⟨_, _, _, _, _, _⟩) (v := ?hv9) rfl (by kernel_rfl) (by kernel_rfl) (by kernel_rfl) (fun _ _ _ h => h) (Or.inl ⟨by rfl, ?hy9⟩) hHeld ?hr9
            case hy9 => (intro W hSw; (try dsimp only at hSw); go_simp; try with_reducible rfl)
            try simp only [Act.put, List.setIfInBounds_toArray, List.set_cons_zero, List.set_cons_succ]
            refine wpAnyH_take (i := 9) (oi := ⟨_, _, _, _, _, _⟩) (v := ?hv10) rfl (by kernel_rfl) (by kernel_rfl) (by kernel_rfl) (fun _ _ _ h => h) (Or.inl ⟨by rfl, ?hy10⟩) hHeld ?hr10
            case hy10 => (intro W hSw; (try dsimp only at hSw); go_simp; try with_reducible rfl)
            try simp only [Act.put, List.setIfInBounds_toArray, List.set_cons_zero, List.set_cons_succ]
            refine wpAnyH_take (i := 10) (oi := ⟨_, _, _, _, _, _⟩) (v := ?hv11) rfl (by kernel_rfl) (by kernel_rfl) (by kernel_rfl) (fun _ _ _ h => h) (Or.inl ⟨by rfl, ?hy11⟩) hHeld ?hr11
            case hy11 => (intro W hSw; (try dsimp only at hSw); go_simp; try with_reducible rfl)
            try simp only [Act.put, List.setIfInBounds_toArray, List.set_cons_zero, List.set_cons_succ]
            refine wpAnyH_take (i := 11) (oi := ⟨_, _, _, _, _, _⟩) (v := ?hv12) rfl (by kernel_rfl) (by kernel_rfl) (by kernel_rfl) (fun _ _ _ h => h) (Or.inl ⟨by rfl, ?hy12⟩) hHeld ?hr12
            case hy12 => (intro W hSw; (try dsimp only at hSw); go_simp; try with_reducible rfl)
            try simp only [Act.put, List.setIfInBounds_toArray, List.set_cons_zero, List.set_cons_succ]
            refine wpAnyH_take (i := 12) (oi := ⟨_, _, _, _, _, _⟩) (v := ?hv13) rfl (by kernel_rfl) (by kernel_rfl) (by kernel_rfl) (fun _ _ _ h => h) (Or.inl ⟨by rfl, ?hy13⟩) hHeld ?hr13
            case hy13 => (intro W hSw; (try dsimp only at hSw); go_simp; try with_reducible rfl)
            try simp only [Act.put, List.setIfInBounds_toArray, List.set_cons_zero, List.set_cons_succ]
            refine wpAnyH_take (i := 13) (oi := ⟨_, _, _, _, _, _⟩) (v := ?hv14) rfl (by kernel_rfl) (by kernel_rfl) (by kernel_rfl) (fun _ _ _ h => h) (Or.inl ⟨by rfl, ?hy14⟩) hHeld ?hr14
            case hy14 => (intro W hSw; (try dsimp only at hSw); go_simp; try with_reducible rfl)
            try simp only [Act.put, List.setIfInBounds_toArray, List.set_cons_zero, List.set_cons_succ]
            refine wpAnyH_take (i := 14) (oi := ⟨_, _, _, _, _, _⟩) (v := ?hv15) rfl (by kernel_rfl) (by kernel_rfl) (by kernel_rfl) (fun _ _ _ h => h) (Or.inl ⟨by rfl, ?hy15⟩) hHeld ?hr15
            case hy15 => (intro W hSw; (try dsimp only at hSw); go_simp; try with_reducible rfl)
            try simp only [Act.put, List.setIfInBounds_toArray, List.set_cons_zero, List.set_cons_succ]
            refine wpAnyH_take (i := 15) (oi := ⟨_, _, _, _, _, _⟩) (v := ?hv16) rfl (by kernel_rfl) (by kernel_rfl) (by kernel_rfl) (fun _ _ _ h => h) (Or.inl ⟨by rfl, ?hy16⟩) hHeld ?hr16
            case hy16 => (intro W hSw; (try dsimp only at hSw); go_simp; try with_reducible rfl)
            try simp only [Act.put, List.setIfInBounds_toArray, List.set_cons_zero, List.set_cons_succ]
            refine wpAnyH_take (i := 16) (oi := ⟨_, _, _, _, _, _⟩) (v := ?hv17) rfl (by kernel_rfl) (by kernel_rfl) (by kernel_rfl) (fun _ _ _ h => h) (Or.inl ⟨by rfl, ?hy17⟩) hHeld ?hr17
            case hy17 => (intro W hSw; (try dsimp only at hSw); go_simp; try with_reducible rfl)
            try simp only [Act.put, List.setIfInBounds_toArray, List.set_cons_zero, List.set_cons_succ]
            refine wpAnyH_take (i := 17) (oi := ⟨_, _, _, _, _, _⟩) (v := ?hv18) rfl (by kernel_rfl) (by kernel_rfl) (by kernel_rfl) (fun _ _ _ h => h) (Or.inl ⟨by rfl, ?hy18⟩) hHeld ?hr18
            case hy18 => (intro W hSw; (try dsimp only at hSw); go_simp; try with_reducible rfl)
            try simp only [Act.put, List.setIfInBounds_toArray, List.set_cons_zero, List.set_cons_succ]
            refine wpAnyH_take (i := 18) (oi := ⟨_, _, _, _, _, _⟩) (v := ?hv19) rfl (by kernel_rfl) (by kernel_rfl) (by kernel_rfl) (fun _ _ _ h => h) (Or.inl ⟨by rfl, ?hy19⟩) hHeld ?hr19
            case hy19 => (intro W hSw; (try dsimp only at hSw); go_simp; try with_reducible rfl)
            try simp only [Act.put, List.setIfInBounds_toArray, List.set_cons_zero, List.set_cons_succ]
            refine wpAnyH_take (i := 19) (oi := ⟨_, _, _, _, _, _⟩) (v := ?hv20) rfl (by kernel_rfl) (by kernel_rfl) (by kernel_rfl) (fun _ _ _ h => h) (Or.inl ⟨by rfl, ?hy20⟩) hHeld ?hr20
            case hy20 => (intro W hSw; (try dsimp only at hSw); go_simp; try with_reducible rfl)
            try simp only [Act.put, List.setIfInBounds_toArray, List.set_cons_zero, List.set_cons_succ]
            refine wpAnyH_take (i := 20) (oi := ⟨_, _, _, _, _, _⟩) (v := ?hv21) rfl (by kernel_rfl) (by kernel_rfl) (by kernel_rfl) (fun _ _ _ h => h) (Or.inl ⟨by rfl, ?hy21⟩) hHeld ?hr21
            case hy21 => (intro W hSw; (try dsimp only at hSw); go_simp; try with_reducible rfl)
            try simp only [Act.put, List.setIfInBounds_toArray, List.set_cons_zero, List.set_cons_succ]
            refine wpAnyH_take (i := 21) (oi := ⟨_, _, _, _, _, _⟩) (v := ?hv22) rfl (by kernel_rfl) (by kernel_rfl) (by kernel_rfl) (fun _ _ _ h => h) (Or.inl ⟨by rfl, ?hy22⟩) hHeld ?hr22
            case hy22 => (intro W hSw; (try dsimp only at hSw); go_simp; try with_reducible rfl)
            try simp only [Act.put, List.setIfInBounds_toArray, List.set_cons_zero, List.set_cons_succ]
            refine wpAnyH_take (i := 22) (oi := ⟨_, _, _, _, _, _⟩) (v := ?hv23) rfl (by kernel_rfl) (by kernel_rfl) (by kernel_rfl) (fun _ _ _ h => h) (Or.inl ⟨by rfl, ?hy23⟩) hHeld ?hr23
            case hy23 => (intro W hSw; (try dsimp only at hSw); go_simp; try with_reducible rfl)
            try simp only [Act.put, List.setIfInBounds_toArray, List.set_cons_zero, List.set_cons_succ]
            refine wpAnyH_take (i := 23) (oi := ⟨_, _, _, _, _, _⟩) (v := ?hv24) rfl (by kernel_rfl) (by kernel_rfl) (by kernel_rfl) (fun _ _ _ h => h) (Or.inl ⟨by rfl, ?hy24⟩) hHeld ?hr24
            case hy24 => (intro W hSw; (try dsimp only at hSw); go_simp; try with_reducible rfl)
            try simp only [Act.put, List.setIfInBounds_toArray, List.set_cons_zero, List.set_cons_succ]
            refine wpAnyH_take (i := 24) (oi := ⟨_, _, _, _, _, _⟩) (v := ?hv25) rfl (by kernel_rfl) (by kernel_rfl) (by kernel_rfl) (fun _ _ _ h => h) (Or.inl ⟨by rfl, ?hy25⟩) hHeld ?hr25
            case hy25 => (intro W hSw; (try dsimp only at hSw); go_simp; try with_reducible rfl)
            try simp only [Act.put, List.setIfInBounds_toArray, List.set_cons_zero, List.set_cons_succ]
            refine wpAnyH_ready (rs := [25]) (by kernel_rfl) (by simp) ?_
            refine AllReadyH.cons (o := ⟨_, _, _, _, _, _⟩) rfl (fun K hK => ?hs26) ?hm26
            case hs26 =>
              go_simp
              (with_reducible refine (cCt _ y1).mono ?_)
              rintro e u2 ⟨rfl, h2⟩
              subst h2
              go_wp2_with fail
              refine hK.out _ _ ?hS26 (fun hHeld => ?hR26)
              case hS26 => exact KEEP.out _ y1
              clear hK K
              try simp only [Act.put, List.setIfInBounds_toArray, List.set_cons_zero, List.set_cons_succ]
              refine wpAnyH_take (i := 26) (oi := ⟨_, _, _, _, _, _⟩) (v := ?hv27) rfl (by kernel_rfl) (by kernel_rfl) (by kernel_rfl) (fun _ _ _ h => h) (Or.inl ⟨by rfl, ?hy27⟩) hHeld ?hr27
              case hy27 => (intro W hSw; (try dsimp only at hSw); go_simp; try with_reducible rfl)
              try simp only [Act.put, List.setIfInBounds_toArray, List.set_cons_zero, List.set_cons_succ]
              refine wpAnyH_take (i := 27) (oi := ⟨_, _, _, _, _, _⟩) (v := ?hv28) rfl (by kernel_rfl) (by kernel_rfl) (by kernel_rfl) (fun _ _ _ h => h) (Or.inl ⟨by rfl, ?hy28⟩) hHeld ?hr28
              case hy28 => (intro W hSw; (try dsimp only at hSw); go_simp; try with_reducible rfl)
              try simp only [Act.put, List.setIfInBounds_toArray, List.set_cons_zero, List.set_cons_succ]
              refine wpAnyH_take (i := 28) (oi := ⟨_, _, _, _, _, _⟩) (v := ?hv29) rfl (by kernel_rfl) (by kernel_rfl) (by kernel_rfl) (fun _ _ _ h => h) (Or.inl ⟨by rfl, ?hy29⟩) hHeld ?hr29
              case hy29 => (intro W hSw; (try dsimp only at hSw); go_simp; try with_reducible rfl)
              try simp only [Act.put, List.setIfInBounds_toArray, List.set_cons_zero, List.set_cons_succ]
              refine wpAnyH_done (by kernel_rfl) ?_ _
              go_wp2_with fail
              go_meet
              exact ⟨rfl, y1⟩
            case hm26 => exact AllReadyH.nil
          case hm2 => exact AllReadyH.nil
      case rest =>
        obtain ⟨rfl, HY5⟩ := hcut
        obtain ⟨⟨e0, _, _⟩, _, _, hsm, hy5⟩ := HFC.out _ HY5.out
        have HSM2 := Lib.hid hsm
        have hsz5 := hy5
        have hmbl := HMB.out
        clear hfc hls hup hsm
        go_wp2_with (at_mapUpdate; go_must (refine wpList_store_seen _ rfl _ _ _ rfl MB (validsP p k) rfl HSM2.out bxv rfl (by have := HVP.out; omega) HVP.out.2 rfl hvl ?_); intro w8 hS8 hK8)
        go_wp2_with fail
        go_roundg g'
        case measure => omega
        case rel => exact ⟨k + 1, by omega, by go_num, by rw [HST.out]; exact hS8, hsz5.trans (hK8.below hsz5.size (fun j e => e ▸ hmbl))⟩
    · obtain rfl : k = M := by omega
      go_wp2_with fail
      go_ret
      exact ⟨rfl, hbw⟩
end Go.Proofs.YtdlfbhbgemoelaaGreatDoor
