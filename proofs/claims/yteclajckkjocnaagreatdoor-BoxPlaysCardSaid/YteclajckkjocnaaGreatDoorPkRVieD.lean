/- The reference's Look: the state of its walk, and what each write leaves; what it tells is what the document tells. No condition beyond those each names. The walk over the reference's Look. No condition beyond those it names. -/
import Derived.Deep.DrawnRows
import Derived.Deep.DeepCutAuto
import Derived.Deep.CutBlock
import Derived.Deep.RegionHeld3
import Derived.Laws.AppendOwnNone
import Derived.Test.YteclajckkjocnaaGreatDoorPkVKnow
namespace Go.Proofs.YteclajckkjocnaaGreatDoor
open Go.RowKit Go.Shelf Go.Sort
set_option linter.unusedSimpArgs false
set_option linter.unusedSimpArgs false
/-- the last number that is seen -/
def rlast (us : Us) : Int := match us.getLast? with
  | some u => u.1
  | none => 0
def radd (ls : List Let) (n : Int) : Us := (ls.filter fun x => decide (n < x.uid)).map fun x => (x.uid, x.flags)
theorem rlast_snoc (us : Us) (u : Int × List (List UInt8)) : rlast (us ++ [u]) = u.1 := by unfold rlast; rw [List.getLast?_concat]
theorem newB_eq {us : Us} {x : Let} (hx : 1 ≤ x.uid) : newB us x = decide (rlast us < x.uid) := by
  unfold newB lastU rlast
  cases us.getLast? with
  | none => exact (decide_eq_true (by show (0 : Int) < _; omega)).symm
  | some u => rfl
theorem see_rise : ∀ (ls : List Let) (us : Us), (∀ x ∈ ls, 1 ≤ x.uid) → ls.Pairwise (fun x y => x.uid < y.uid) → seeF ls us = us ++ radd ls (rlast us)
  | [], us, _, _ => by simp [seeF, radd]
  | x :: r, us, h1, h2 => by
    obtain ⟨h3, h4⟩ := List.pairwise_cons.1 h2
    have hx := h1 x (List.mem_cons_self ..)
    show seeF r (addF us x) = _
    rw [see_rise r _ (fun y hy => h1 y (List.mem_cons_of_mem _ hy)) h4]
    unfold addF
    rw [newB_eq hx]
    by_cases hn : rlast us < x.uid
    · rw [decide_eq_true hn, if_pos rfl, rlast_snoc, List.append_assoc]
      congr 1
      unfold radd
      have e1 : r.filter (fun y => decide ((x.uid, x.flags).1 < y.uid)) = r := List.filter_eq_self.2 (fun y hy => decide_eq_true (h3 y hy))
      have e2 : (x :: r).filter (fun y => decide (rlast us < y.uid)) = x :: r := List.filter_eq_self.2 (fun y hy => by
        rcases List.mem_cons.1 hy with rfl | hy
        · exact decide_eq_true hn
        · exact decide_eq_true (by have := h3 y hy; omega))
      rw [e1, e2]
      rfl
    · rw [decide_eq_false hn, if_neg (by decide)]
      unfold radd
      rw [List.filter_cons, if_neg (by simpa using hn)]
theorem rlast_now (ls : List Let) (us : Us) : rlast (us.map (nowF ls)) = rlast us := by
  unfold rlast
  rw [List.getLast?_map]
  cases us.getLast? with
  | none => rfl
  | some u => exact nowF_fst ls u
/-- what Look tells, and leaves, as the reference goes about it -/
theorem look_ref {ls : List Let} (us : Us) (gone : Bool) (h : Rising ls) {us1 : Us} (h1 : (if gone then us.filter (foundB ls) else us) = us1) :
    lookF ls us gone = ((if gone then goneL ls us us.length else []) ++ (if 0 < (radd ls (rlast us1)).length then [⟨2, ((us1.length + (radd ls (rlast us1)).length : Nat) : Int), []⟩] else []) ++ chF ls 0 us1, us1.map (nowF ls) ++ radd ls (rlast us1)) := by
  unfold lookF
  rw [h1]
  simp only
  rw [see_rise ls _ (fun x hx => (h.1 x hx).1) h.2, rlast_now]
  simp only [List.length_append, List.length_map]
  congr 3
  by_cases h0 : 0 < (radd ls (rlast us1)).length
  · rw [if_pos (by omega), if_pos h0]
  · rw [if_neg (by omega), if_neg h0]
theorem rnews_info : (Tryz.prog.info? 104).map (fun i => (i.zero, i.size, i.bytes)) = some (some (.agg #[.int .i64 0, .int .i64 0, .slice none 0 0]), 3, 40) := by kernel_rfl
/-- rows of letters as they are seen, with their flags' values -/
def FR (N : Nat) (w : World) (rs : List (Let × Value)) (us : Us) : Prop := rs.map (·.1) = us.map mkL ∧ ∀ z ∈ rs, SRow w z.2 z.1.flags ∧ SafeV N w z.2
theorem FR.len {N : Nat} {w : World} {rs : List (Let × Value)} {us : Us} (h : FR N w rs us) : rs.length = us.length := by have := congrArg List.length h.1; rwa [List.length_map, List.length_map] at this
theorem FR.at {N : Nat} {w : World} {rs : List (Let × Value)} {us : Us} (h : FR N w rs us) {i : Nat} {u : Int × List (List UInt8)} (hu : us[i]? = some u) : ∃ xa xc, rs[i]? = some (mkL u, .slice xa u.2.length xc) ∧ SRow w (.slice xa u.2.length xc) u.2 ∧ SafeV N w (.slice xa u.2.length xc) := by
  have e : (rs.map (·.1))[i]? = some (mkL u) := by rw [h.1, List.getElem?_map, hu]; rfl
  rw [List.getElem?_map] at e
  obtain ⟨⟨z1, z2⟩, hz, e2⟩ := Option.map_eq_some_iff.1 e
  obtain rfl : z1 = mkL u := e2
  obtain ⟨h3, h4⟩ := h.2 _ (List.mem_of_getElem? hz)
  have h3' := h3
  obtain ⟨xa, xc, e3, _⟩ := h3'
  have e3' : z2 = .slice xa u.2.length xc := e3
  subst e3'
  exact ⟨xa, xc, hz, h3, h4⟩
theorem FR.nil (N : Nat) (w : World) : FR N w [] [] := ⟨rfl, fun z hz => by cases hz⟩
theorem FR.cons {N : Nat} {w : World} {rs : List (Let × Value)} {us : Us} (h : FR N w rs us) {u : Int × List (List UInt8)} {v : Value} (h1 : SRow w v u.2) (h2 : SafeV N w v) : FR N w ((mkL u, v) :: rs) (u :: us) := ⟨by rw [List.map_cons, List.map_cons, h.1], fun z hz => by
  rcases List.mem_cons.1 hz with rfl | hz
  · exact ⟨h1, h2⟩
  · exact h.2 z hz⟩
theorem FR.snoc {N : Nat} {w : World} {rs : List (Let × Value)} {us : Us} (h : FR N w rs us) {u : Int × List (List UInt8)} {v : Value} (h1 : SRow w v u.2) (h2 : SafeV N w v) : FR N w (rs ++ [(mkL u, v)]) (us ++ [u]) := ⟨by rw [List.map_append, List.map_append, h.1]; rfl, fun z hz => by
  rcases List.mem_append.1 hz with hz | hz
  · exact h.2 z hz
  · obtain rfl := List.mem_singleton.1 hz
    exact ⟨h1, h2⟩⟩
theorem FR.set {N : Nat} {w : World} {rs : List (Let × Value)} {us : Us} (h : FR N w rs us) {u : Int × List (List UInt8)} {v : Value} (i : Nat) (h1 : SRow w v u.2) (h2 : SafeV N w v) : FR N w (rs.set i (mkL u, v)) (us.set i u) := ⟨by rw [List.map_set, List.map_set, h.1], fun z hz => by
  rcases List.mem_or_eq_of_mem_set hz with hz | rfl
  · exact h.2 z hz
  · exact ⟨h1, h2⟩⟩
/-- the state of Look's walk: at wr, from w; cu: what the view's block holds; rv: the row that is being made -/
structure RLk (N : Nat) (w : World) (U D : Nat) (vd nx : Int) (lv : Value) (wr : World) (cu ov : Value) (vs : NV) (ns : List Nw) (rv : Value) (us : Us) : Prop where
  hU : wr.heap[U]? = some (.cells #[cu] 49 (0, 0))
  hD : wr.heap[D]? = some (.cells #[.int .i64 vd, .int .i64 nx, lv] 26 (0, 0))
  o : wr.ownsRow w.heap.size 104 3 ov vs.length (cellsN vs)
  r : ReadsN N w vs ns
  c : ∃ rs, FR N w rs us ∧ wr.ownsRow w.heap.size 51 4 rv us.length (cellsL rs)
  k : Kept (fun j => j = U) w wr
section
variable {N U D : Nat} {w wr w' : World} {vd nx : Int} {lv cu ov rv : Value} {vs : NV} {ns : List Nw} {us : Us}
theorem RLk.below (h : RLk N w U D vd nx lv wr cu ov vs ns rv us) (hb : Below wr.heap.size wr w') : RLk N w U D vd nx lv w' cu ov vs ns rv us := by
  obtain ⟨rs, h1, h2⟩ := h.c
  exact ⟨below_same hb h.hU, below_same hb h.hD, owns_below h.o hb, h.r, ⟨rs, h1, owns_below h2 hb⟩, h.k.trans (kept_below hb)⟩
/-- more is told -/
theorem RLk.tell (h : RLk N w U D vd nx lv wr cu ov vs ns rv us) {ob : Obj} {p q : Nat} {x : Int × Int × (Option Addr × Nat × Nat)} {f : List (List UInt8)} (hx1 : SRow w (encSl x.2.2) f) (hx2 : SafeV N w (encSl x.2.2))
    (ho : w'.ownsRow w.heap.size 104 3 (.slice (some ⟨p, 0, none⟩) (vs.length + 1) q) (vs.length + 1) (cellsN vs ++ [.int .i64 x.1, .int .i64 x.2.1, encSl x.2.2])) (hg : (wr.alloc ob).grownBy w' ov.ownBlock) :
    RLk N w U D vd nx lv w' cu (.slice (some ⟨p, 0, none⟩) (vs.length + 1) q) (vs ++ [x]) (ns ++ [⟨x.1, x.2.1, f⟩]) rv us := by
  obtain ⟨rs, h1, h2⟩ := h.c
  have yb : Below w.heap.size wr w' := ((Below.refl w.heap.size wr).alloc h.k.size ob).grown hg (by rw [alloc_size]; exact Nat.le_succ_of_le h.k.size) (fun j e => (h.o.lt j e).1)
  refine ⟨grown_keeps h.hU (by intro c fz e; cases e) h.o hg, grown_keeps h.hD (by intro c fz e; cases e) h.o hg, ?_, h.r.app (ReadsN.one hx1 hx2), ⟨rs, h1, owns_grown h2 h.o hg (by decide)⟩, h.k.next yb⟩
  rw [news_cells] at ho
  exact owns_n ho (by simp)
/-- the row is another -/
theorem RLk.row (h : RLk N w U D vd nx lv wr cu ov vs ns rv us) (hb : Below wr.heap.size wr w') {rs : List (Let × Value)} {us' : Us} {rv' : Value} (hF : FR N w rs us') (ho : w'.ownsRow wr.heap.size 51 4 rv' rs.length (cellsL rs)) : RLk N w U D vd nx lv w' cu ov vs ns rv' us' := by
  have h1 := h.below hb
  exact ⟨h1.hU, h1.hD, h1.o, h1.r, ⟨rs, hF, owns_less (hF.len ▸ ho) h.k.size⟩, h1.k⟩
theorem RLk.neD (h : RLk N w U D vd nx lv wr cu ov vs ns rv us) : D ≠ U := ne_of_obj h.hD h.hU (by intro e; cases e)
theorem RLk.setU (h : RLk N w U D vd nx lv wr cu ov vs ns rv us) (u : Value) : RLk N w U D vd nx lv (wr.setCell ⟨U, 0, none⟩ u) u ov vs ns rv us := by
  obtain ⟨rs, h1, h2⟩ := h.c
  exact ⟨set1_0 h.hU, setCell_same h.hD h.neD, owns_setAny h.o h.hU (by decide), h.r, ⟨rs, h1, owns_setAny h2 h.hU (by decide)⟩, h.k.trans (Kept.setB (Kept.refl _ wr) _)⟩
/-- what a world leaves in which but the row's block was written -/
theorem RLk.grow (h : RLk N w U D vd nx lv wr cu ov vs ns rv us) (hk : Kept (fun j => rv.ownBlock = some j) wr w') {rs : List (Let × Value)} {us' : Us} {rv' : Value} (hF : FR N w rs us') (ho : w'.ownsRow w.heap.size 51 4 rv' rs.length (cellsL rs)) : RLk N w U D vd nx lv w' cu ov vs ns rv' us' := by
  obtain ⟨rs0, h1, h2⟩ := h.c
  have hne : ∀ {j : Nat} {c : Array Value} {T : TypeId} {fz : Nat × Nat}, wr.heap[j]? = some (.cells c T fz) → T ≠ 51 → ¬ rv.ownBlock = some j := fun {j c T fz} hj hT e => by
    rcases h2.2 with ⟨e1, _⟩ | ⟨g, cap, cur, e1, _, hh, _⟩
    · rw [e1] at e; cases e
    · rw [e1] at e; cases e
      rw [hj] at hh; cases hh; exact hT rfl
  refine ⟨hk.obj h.hU (hne h.hU (by decide)), hk.obj h.hD (hne h.hD (by decide)), ?_, h.r, ⟨rs, hF, hF.len ▸ ho⟩, ?_⟩
  · exact owns_same h.o (fun j o hj ⟨c, fz, e⟩ => hk.obj hj (by subst e; exact hne hj (by decide)))
  · exact h.k.next ⟨hk.os, hk.tape, hk.output, hk.size, fun j hj => hk.block j (Nat.lt_of_lt_of_le hj h.k.size) (fun e => by have := (h2.lt j e).1; omega)⟩
theorem RLk.cell {i : Nat} {u : Int × List (List UInt8)} (h : RLk N w U D vd nx lv wr cu ov vs ns rv us) (hu : us[i]? = some u) : ∃ p q xa xc, rv = .slice (some ⟨p, 0, none⟩) us.length q ∧ w.heap.size ≤ p ∧ wr.cell? ⟨p, i * 4, none⟩ = some (.int .i64 u.1) ∧ wr.cell? ⟨p, i * 4 + 1, none⟩ = some (.slice xa u.2.length xc) ∧ wr.frozen? ⟨p, i * 4 + 1, none⟩ = false ∧ SRow w (.slice xa u.2.length xc) u.2 ∧ SafeV N w (.slice xa u.2.length xc) := by
  obtain ⟨rs, h1, h2⟩ := h.c
  have hi := (List.getElem?_eq_some_iff.1 hu).1
  obtain ⟨xa, xc, e1, e2, e3⟩ := h1.at hu
  obtain ⟨p, q, rfl⟩ := own_some h2 (by omega)
  refine ⟨p, q, xa, xc, rfl, (h2.lt p rfl).1, ?_, ?_, h2.frozenAt _, e2, e3⟩
  · rw [h2.cellAt _ (by omega)]
    have := cellsL_get rs i 0 (by omega)
    rw [Nat.add_zero, e1] at this
    exact this
  · rw [h2.cellAt _ (by omega), cellsL_get _ _ _ (by omega), e1]; rfl
/-- flags set anew, in place -/
theorem RLk.flag {p q i : Nat} {u : Int × List (List UInt8)} {f : List (List UInt8)} {v : Value} (h : RLk N w U D vd nx lv wr cu ov vs ns (.slice (some ⟨p, 0, none⟩) us.length q) us) (hu : us[i]? = some u) (h1 : SRow w v f) (h2 : SafeV N w v) :
    RLk N w U D vd nx lv (wr.setCell ⟨p, i * 4 + 1, none⟩ v) cu ov vs ns (.slice (some ⟨p, 0, none⟩) us.length q) (us.set i (u.1, f)) := by
  obtain ⟨rs, h3, h4⟩ := h.c
  obtain ⟨xa, xc, e1, _⟩ := h3.at hu
  have h5 := (h4.stored (i * 4 + 1) v).1
  have hF := h3.set (u := (u.1, f)) i h1 h2
  rw [cellsL_set (mkL (u.1, f)) v rs i _ e1 rfl rfl rfl] at h5
  have hl : (rs.set i (mkL (u.1, f), v)).length = us.length := by rw [List.length_set]; exact h3.len
  refine h.grow (rs := rs.set i (mkL (u.1, f), v)) ((Kept.refl (fun j => (Value.slice (some ⟨p, 0, none⟩) us.length q).ownBlock = some j) wr).set (p := ⟨p, i * 4 + 1, none⟩) (fun _ => rfl) v) hF ?_
  rw [hl]; exact h5
end
end Go.Proofs.YteclajckkjocnaaGreatDoor
namespace Go.Proofs.YteclajckkjocnaaGreatDoor
open Go.RowKit Go.Shelf Go.Sort
set_option linter.unusedSimpArgs false
set_option linter.unusedSimpArgs false
/-- what is told behind the places from g on; what is left of them -/
def gN (ls : List Let) (us : Us) (gone : Bool) (g : Nat) : List Nw := if gone then goneL ls us (us.length - g) else []
def kF (ls : List Let) (us : Us) (gone : Bool) (g : Nat) : Us := if gone then (us.drop g).filter (foundB ls) else us.drop g
theorem kF_len (ls : List Let) (us : Us) (gone : Bool) (g : Nat) : (kF ls us gone g).length ≤ us.length - g := by
  unfold kF
  have h := List.length_filter_le (foundB ls) (us.drop g)
  have e : (us.drop g).length = us.length - g := List.length_drop ..
  split <;> omega
theorem drop_at {us : Us} {m : Nat} {u : Int × List (List UInt8)} (h : us[m]? = some u) : us.drop m = u :: us.drop (m + 1) := by
  obtain ⟨hm, e⟩ := List.getElem?_eq_some_iff.1 h
  rw [List.drop_eq_getElem_cons hm, e]
theorem kN_stay {ls : List Let} {us : Us} {gone : Bool} {m : Nat} {u : Int × List (List UInt8)} (h : us[m]? = some u) (hs : (gone && !foundB ls u) = false) : gN ls us gone m = gN ls us gone (m + 1) ∧ kF ls us gone m = u :: kF ls us gone (m + 1) := by
  unfold gN kF
  rw [drop_at h]
  cases gone with
  | false => exact ⟨rfl, rfl⟩
  | true =>
    have hf : foundB ls u = true := by simpa using hs
    exact ⟨goneL_yes h hf, by rw [if_pos rfl, if_pos rfl, List.filter_cons, if_pos hf]⟩
theorem kN_go {ls : List Let} {us : Us} {gone : Bool} {m : Nat} {u : Int × List (List UInt8)} (h : us[m]? = some u) (hs : (gone && !foundB ls u) = true) : gN ls us gone m = gN ls us gone (m + 1) ++ [⟨1, (m : Int) + 1, []⟩] ∧ kF ls us gone m = kF ls us gone (m + 1) := by
  unfold gN kF
  rw [drop_at h]
  cases gone with
  | false => cases hs
  | true =>
    have hf : foundB ls u = false := by simpa using hs
    exact ⟨goneL_no h hf, by rw [if_pos rfl, if_pos rfl, List.filter_cons, if_neg (by rw [hf]; decide)]⟩
theorem found_I {ls : List Let} {u : Int × List (List UInt8)} : (findI ls u.1 < 0 ↔ foundB ls u = false) ∧ -1 ≤ findI ls u.1 := by
  unfold findI foundB
  cases findB ls u.1 with
  | none => simp
  | some k => exact ⟨⟨fun h => absurd h (by show ¬ ((k : Int) < 0); omega), fun h => by cases h⟩, by show (-1 : Int) ≤ (k : Int); omega⟩
theorem stF_at2 {ls : List Let} {us : Us} {k : Nat} {u : Int × List (List UInt8)} (h : us[k]? = some u) : (stF ls us k)[k]? = some u := by
  obtain ⟨hk, e⟩ := List.getElem?_eq_some_iff.1 h
  unfold stF
  rw [List.getElem?_append_right (by simp; omega)]
  simp [Nat.min_eq_left (Nat.le_of_lt hk), h]
theorem stF_set2 {ls : List Let} {us : Us} {k : Nat} {u : Int × List (List UInt8)} (h : us[k]? = some u) : stF ls us (k + 1) = (stF ls us k).set k (nowF ls u) := by
  obtain ⟨hk, e⟩ := List.getElem?_eq_some_iff.1 h
  have hl : ((us.take k).map (nowF ls)).length = k := by rw [List.length_map, List.length_take]; omega
  unfold stF
  rw [List.take_add_one, h, List.drop_eq_getElem_cons hk, e, List.map_append, List.set_append_right _ _ (by omega), hl, Nat.sub_self]
  simp
theorem stF_same2 {ls : List Let} {us : Us} {k : Nat} {u : Int × List (List UInt8)} (h : us[k]? = some u) (hn : nowF ls u = u) : stF ls us (k + 1) = stF ls us k := by
  obtain ⟨hk, e⟩ := List.getElem?_eq_some_iff.1 h
  unfold stF
  rw [List.take_add_one, h, List.drop_eq_getElem_cons hk, e, List.map_append]
  simp [hn]
theorem rvs_of {N U D : Nat} {w wr : World} {vd nx : Int} {lv ov rv : Value} {vs : NV} {ns : List Nw} {us : Us} (h : RLk N w U D vd nx lv wr rv ov vs ns rv us) (_hN : N ≤ U) (hNw : N ≤ w.heap.size) (hs : Spares N w (fun j => j = U)) :
    wr.ownsRow w.heap.size 104 3 ov vs.length (cellsN vs) ∧ ReadsN N wr vs ns ∧ RVS N wr U rv us ∧ Kept (fun j => j = U) w wr ∧ (∀ j, rv.ownBlock = some j → w.heap.size ≤ j) := by
  obtain ⟨rs, h1, h2⟩ := h.c
  refine ⟨h.o, h.r.kept h.k hs, ⟨rs, h.hU, ?_, h1.1, fun z hz => ⟨(h1.2 z hz).1.kept (h1.2 z hz).2 h.k hs, (h1.2 z hz).2.kept h.k hs⟩⟩, h.k, fun j e => (h2.lt j e).1⟩
  rw [h1.len]
  exact owns_less h2 hNw
attribute [local go_sem ↓] Go.wp_at_zero Go.wp_at_succ
set_option maxRecDepth 100000 in
set_option maxHeartbeats 40000000 in
theorem rlook_any (N U : Nat) (b : BoxP) (lv lu0 : Value) (zs : List (Let × Value)) (us : Us) (gone : Bool) (w : World) (hv : RVS N w U lu0 us) (hN : N ≤ U) (hNw : N ≤ w.heap.size) (hzs : zs.map (·.1) = b.ls) (hx : XRow N w lv zs)
    (hri : Rising b.ls) (hfl : ∀ x ∈ b.ls, x.flags.length ≤ 1000000) (hfu : ∀ u ∈ us, u.2.length ≤ 1000000) (hul : us.length ≤ 100000) (hll : b.ls.length ≤ 100000) :
    Calls Tryz.prog 34 #[.pointer (some ⟨U, 0, none⟩), .agg #[.int .i64 b.valid, .int .i64 b.next, lv], .bool gone] w fun e w' => ∃ ov vs lu, e = .returned ov ∧ w'.ownsRow w.heap.size 104 3 ov vs.length (cellsN vs) ∧ ReadsN N w' vs (lookF b.ls us gone).1 ∧ RVS N w' U lu (lookF b.ls us gone).2 ∧ Kept (fun j => j = U) w w' ∧ (∀ j, lu.ownBlock = some j → w.heap.size ≤ j) := by
  obtain ⟨rs0, hU, ho0, hF1, hF2⟩ := hv
  have hF0 : FR N w rs0 us := ⟨hF1, hF2⟩
  have hrl := hF0.len
  have hsp : Spares N w (fun j => j = U) := spares_at hU hN (by decide) (by decide)
  obtain ⟨ao, cap, hlv, _⟩ := hx.1
  subst hlv
  have hzl : zs.length ≤ 100000 := by rw [← hzs, List.length_map] at hll; exact hll
  have hUw : U < w.heap.size := (Array.getElem?_eq_some_iff.1 hU).1
  have x0 := World.heap_alloc_new w (.cells #[.int .i64 b.valid, .int .i64 b.next, .slice ao zs.length cap] 26)
  have y0 : Below w.heap.size w (w.alloc (.cells #[.int .i64 b.valid, .int .i64 b.next, .slice ao zs.length cap] 26)) := (Below.refl _ _).alloc (Nat.le_refl _) _
  have hcell : ∀ wr, Kept (fun j => j = U) w wr → ∀ (m : Nat) (u : Int × List (List UInt8)), us[m]? = some u → ∃ p q xa xc, lu0 = .slice (some ⟨p, 0, none⟩) us.length q ∧ wr.cell? ⟨p, m * 4, none⟩ = some (.int .i64 u.1) ∧ wr.cell? ⟨p, m * 4 + 1, none⟩ = some (.slice xa u.2.length xc) ∧ wr.cell? ⟨p, m * 4 + 2, none⟩ = some (.int .i64 0) ∧ wr.cell? ⟨p, m * 4 + 3, none⟩ = some (.string ⟨#[]⟩) ∧ SRow w (.slice xa u.2.length xc) u.2 ∧ SafeV N w (.slice xa u.2.length xc) := fun wr hk m u hu => by
    obtain ⟨xa, xc, e1, e2, e3⟩ := hF0.at hu
    have hm := (List.getElem?_eq_some_iff.1 hu).1
    obtain ⟨p, q, rfl⟩ := own_some ho0 (by omega)
    have hpl := (ho0.lt p rfl).2
    have hpU : p ≠ U := fun e => by
      rcases ho0.2 with ⟨e', _⟩ | ⟨g, c, cur, e', _, hh, _⟩
      · cases e'
      · cases e'; rw [e, hU] at hh; cases hh
    have hc : ∀ i, i < 4 → wr.cell? ⟨p, m * 4 + i, none⟩ = (cells1 (mkL u, Value.slice xa u.2.length xc))[i]? := fun i hi => by
      rw [World.cell?_of_block (hk.block p hpl hpU), ho0.cellAt _ (by omega), cellsL_get _ _ _ hi, e1]; rfl
    exact ⟨p, q, xa, xc, by rw [hrl], hc 0 (by omega), hc 1 (by omega), hc 2 (by omega), hc 3 (by omega), e2, e3⟩
  have hfind : ∀ (n : Int) (wr : World), Kept (fun j => j = U) w wr → Calls Tryz.prog 13 #[.agg #[.int .i64 b.valid, .int .i64 b.next, .slice ao zs.length cap], .int .i64 n] wr fun e w' => e = .returned (.int .i64 (findI b.ls n)) ∧ Below wr.heap.size wr w' := fun n wr hk => by
    have := rfind_any N b.valid b.next (.slice ao zs.length cap) zs n wr (hx.kept hk hsp) (by omega)
    rw [hzs] at this
    exact this
  obtain ⟨D, hD⟩ : ∃ D, w.heap.size = D := ⟨_, rfl⟩
  obtain ⟨ua0, uc0, hlu⟩ := owns_val ho0
  have hL0 : RLk N w U D b.valid b.next (.slice ao zs.length cap) (w.alloc (.cells #[.int .i64 b.valid, .int .i64 b.next, .slice ao zs.length cap] 26)) lu0 (.slice none 0 0) [] (gN b.ls us gone us.length) (.slice none 0 0) (kF b.ls us gone us.length) := by
    have e1 : gN b.ls us gone us.length = [] := by unfold gN; rw [Nat.sub_self]; cases gone <;> rfl
    have e2 : kF b.ls us gone us.length = [] := List.eq_nil_of_length_eq_zero (by have := kF_len b.ls us gone us.length; omega)
    rw [e1, e2]
    exact ⟨below_same y0 hU, by rw [← hD]; exact x0, World.ownsRow_nil _ _ _ _, ReadsN.nil _ _, ⟨[], FR.nil _ _, World.ownsRow_nil _ _ _ _⟩, kept_below y0⟩
  have HL0 := Lib.hid hL0; have HSP := Lib.hid hsp; have HX := Lib.hid hx; have HZ := Lib.hid hzs; have HRI := Lib.hid hri; have HFL := Lib.hid hfl; have HFU := Lib.hid hfu; have HCELL := Lib.hid hcell; have HFIND := Lib.hid hfind; have HU := Lib.hid hU; have HD := Lib.hid hD
  obtain ⟨i3, hi3, hz30, hz31, hz32⟩ := info_parts rnews_info
  obtain ⟨i1, hi1, hz10, hz11, hz12⟩ := info_parts let_info
  have dV0 := one_cell (hL0.hU)
  rw [hlu, hrl] at dV0
  have HLU : Hid (lu0 = .slice ua0 us.length uc0) := by show _ = _; rw [hlu, hrl]
  have huz : wrap64 ((us.length : Int) - 1) = (us.length : Int) - 1 := IntWalk.wrap64_in _ (by omega)
  clear hF0 hF1 hF2 hrl hsp hx hzs hri hfl hfu hcell hfind hU ho0 hL0 x0 y0 hD hlu
  go_enter Tryz.func34, Tryz.ntmps34
  go_upto_block 0 with fail
  clear dV0 huz
  rw [show w.heap.size = D from HD.out]
  go_cut [7, 8] (fun s7 s8 wr => ∃ (ov rv : Value) (vs : NV), ov = s7 ∧ rv = s8 ∧ RLk N w U D b.valid b.next (.slice ao zs.length cap) wr lu0 ov vs (gN b.ls us gone 0) rv (kF b.ls us gone 0) ∧ vs.length ≤ us.length)
  case first =>
    go_wp2_with fail
    go_loopg [7, 8, 9] us.length (fun g s7 s8 s9 wr => ∃ (i : Int) (ov rv : Value) (vs : NV), s9 = .int .i64 i ∧ i = (g : Int) - 1 ∧ g ≤ us.length ∧ ov = s7 ∧ rv = s8 ∧ RLk N w U D b.valid b.next (.slice ao zs.length cap) wr lu0 ov vs (gN b.ls us gone g) rv (kF b.ls us gone g) ∧ vs.length + g ≤ us.length)
    case atStart => exact ⟨_, _, _, [], rfl, rfl, Nat.le_refl _, rfl, rfl, HL0.out, by simp⟩
    case round =>
      obtain ⟨i, ov, rv, vs, rfl, hi, hgk, rfl, rfl, hL, hvl⟩ := hrel
      clear HL0
      have HL := Lib.hid hL
      by_cases hpos : 0 < gk
      · obtain ⟨m, rfl⟩ : ∃ m, gk = m + 1 := ⟨gk - 1, by omega⟩
        obtain rfl : i = (m : Int) := by omega
        clear hi
        obtain ⟨u, hum⟩ : ∃ u, us[m]? = some u := ⟨us[m], List.getElem?_eq_getElem (by omega)⟩
        obtain ⟨pu, qu, xa, xc, hlu, c0, c1, c2, c3, hS, hV⟩ := HCELL.out wr hL.k m u hum
        subst hlu
        have dU := one_cell hL.hU
        obtain ⟨b0, b1, b2⟩ := three_cells hL.hD
        have hmz : (m : Int) < (us.length : Int) := by omega
        have hfI := @found_I b.ls u
        have HFU' := HFU.out u (List.mem_of_getElem? hum)
        have hws := hL.k.size
        -- what holds at any world above
        have hST : ∀ W, Below wr.heap.size wr W → W.cell? ⟨D, 0, none⟩ = some (.int .i64 b.valid) ∧ W.cell? ⟨D, 1, none⟩ = some (.int .i64 b.next) ∧ W.cell? ⟨D, 2, none⟩ = some (.slice ao zs.length cap) ∧ W.cell? ⟨U, 0, none⟩ = some (.slice (some ⟨pu, 0, none⟩) us.length qu) ∧ W.cell? ⟨pu, m * 4, none⟩ = some (.int .i64 u.1) := fun W hW => ⟨below_cell hW b0, below_cell hW b1, below_cell hW b2, below_cell hW dU, below_cell hW c0⟩
        have HST := Lib.hid hST
        have hcF : ∀ W, Below wr.heap.size wr W → Calls Tryz.prog 13 #[.agg #[.int .i64 b.valid, .int .i64 b.next, .slice ao zs.length cap], .int .i64 u.1] W fun e w' => e = .returned (.int .i64 (findI b.ls u.1)) ∧ Below W.heap.size W w' := fun W hW => HFIND.out _ _ (HL.out.k.trans (kept_below hW))
        have HCF := Lib.hid hcF
        have hkS := fun h => kN_stay (ls := b.ls) (gone := gone) hum h
        have hkG := fun h => kN_go (ls := b.ls) (gone := gone) hum h
        have HKS := Lib.hid hkS; have HKG := Lib.hid hkG; have HUM := Lib.hid hum; have HSU := Lib.hid hS; have HVU := Lib.hid hV; have HFI := Lib.hid hfI; have HLU2 := Lib.hid HLU
        clear hL hum hS hV hST hcF hkS hkG hfI HLU b0 b1 b2
        cases gone with
        | false =>
          go_upto_region 6 with fail
          go_quiet (fail)
          go_upto_region 8 with fail
          obtain ⟨WD, hWD⟩ : ∃ WD, wr.drewN nq = WD := ⟨_, rfl⟩
          have yW : Below wr.heap.size wr WD := hWD ▸ below_drewN wr nq
          rw [hWD]
          clear hWD
          clear HKG
          have hC : WD.cell? ⟨pu, m * 4, none⟩ = some (.int .i64 u.1) ∧ WD.cell? ⟨pu, m * 4 + 1, none⟩ = some (.slice xa u.2.length xc) ∧ WD.cell? ⟨pu, m * 4 + 2, none⟩ = some (.int .i64 0) ∧ WD.cell? ⟨pu, m * 4 + 3, none⟩ = some (.string ⟨#[]⟩) := ⟨below_cell yW c0, below_cell yW c1, below_cell yW c2, below_cell yW c3⟩
          have L1 := HL.out.below yW
          clear c0 c1 c2 c3 dU
          have dU := one_cell L1.hU
          have HL1 := Lib.hid L1
          have c0 := hC.1; have c1 := hC.2.1; have c2 := hC.2.2.1; have c3 := hC.2.2.2
          clear hC L1
          obtain ⟨rs, hFr, hor⟩ := HL1.out.c
          have hkl := kF_len b.ls us false (m + 1)
          have hrl := hFr.len
          obtain ⟨ra, rc, hrv⟩ := owns_val hor
          rw [← hrl] at hor
          have oN : (WD.alloc (.cells #[.int .i64 u.1, .slice xa u.2.length xc, .int .i64 0, .string ⟨#[]⟩] 51)).ownsRow WD.heap.size 51 4 (.slice (some ⟨WD.heap.size, 0, none⟩) 1 1) [((mkL u : Let), Value.slice xa u.2.length xc)].length (cellsL [((mkL u : Let), Value.slice xa u.2.length xc)]) := World.ownsRow_lit WD _ 1 (Nat.le_refl _) (by decide) rfl
          have yN : Below WD.heap.size WD (WD.alloc (.cells #[.int .i64 u.1, .slice xa u.2.length xc, .int .i64 0, .string ⟨#[]⟩] 51)) := (Below.refl _ _).alloc (Nat.le_refl _) _
          have zN : ZRow (WD.alloc (.cells #[.int .i64 u.1, .slice xa u.2.length xc, .int .i64 0, .string ⟨#[]⟩] 51)) (.slice ra rs.length rc) rs := by
            have hkk := HL1.out.k
            have h1 := zrow_owns hor (fun z hz => (hFr.2 z hz).1.kept (hFr.2 z hz).2 hkk HSP.out)
            rw [hrv, ← hrl] at h1
            exact h1.below yN
          rw [← hrl] at hrv
          subst hrv
          have hsN : WD.heap.size ≤ (WD.alloc (.cells #[.int .i64 u.1, .slice xa u.2.length xc, .int .i64 0, .string ⟨#[]⟩] 51)).heap.size := yN.size
          have HFR := Lib.hid hFr
          clear hor hFr hrl
          go_wp2_with (at_builtin; go_must (refine wpList_appL rfl _ _ rfl WD.heap.size (.slice (some ⟨WD.heap.size, 0, none⟩) 1 1) [((mkL u : Let), Value.slice xa u.2.length xc)] _ rfl oN _ rs rc rfl zN ?hn1 hsN ?_))
          case hn1 => have := HFR.out.len; simp; omega
          intro v4 w4 o4 g4
          have y4 : Below WD.heap.size WD w4 := yN.grown g4 yN.size (fun j e => by cases e; exact Nat.le_refl _)
          have hF4 : FR N w ([((mkL u : Let), Value.slice xa u.2.length xc)] ++ rs) (u :: kF b.ls us false (m + 1)) := HFR.out.cons HSU.out HVU.out
          have L4 := HL1.out.row y4 hF4 o4
          have HL4 := Lib.hid L4
          clear o4 g4 oN zN yN L4 hF4
          go_wp2_with fail
          go_roundg m
          case measure => omega
          case rel =>
            obtain ⟨e1, e2⟩ := HKS.out (by rfl)
            exact ⟨_, ov, v4, vs, rfl, rfl, by omega, rfl, rfl, by rw [e1, e2]; exact HL4.out, by omega⟩
        | true =>
          obtain ⟨fI, hfIe⟩ : ∃ fI, findI b.ls u.1 = fI := ⟨_, rfl⟩
          have HFIE := Lib.hid hfIe
          have hq := HFI.out
          rw [hfIe] at hq
          clear hfIe
          by_cases hneg : fI < 0
          · have hf : foundB b.ls u = false := hq.1.1 hneg
            have HF := Lib.hid hf
            clear hf hq
            go_upto_region 6 with fail
            have yd : Below wr.heap.size wr wr.drew := (Below.refl _ wr).drew
            have hSd := HST.out _ yd
            have cFd := HCF.out _ yd
            rw [show findI b.ls u.1 = fI from HFIE.out] at cFd
            go_region_held3 (fun W => W.cell? ⟨D, 0, none⟩ = some (.int .i64 b.valid) ∧ W.cell? ⟨D, 1, none⟩ = some (.int .i64 b.next) ∧ W.cell? ⟨D, 2, none⟩ = some (.slice ao zs.length cap) ∧ W.cell? ⟨U, 0, none⟩ = some (.slice (some ⟨pu, 0, none⟩) us.length qu) ∧ W.cell? ⟨pu, m * 4, none⟩ = some (.int .i64 u.1))
              (first | exact hSd | exact hS2)
              ((go_at_call 13; (with_reducible refine cFd.mono ?_); rintro e' w6 ⟨rfl, h6⟩; have y6 := yd.trans (h6.mono yd.size); have hS2 := HST.out _ y6))
            clear HKS
            have hC : w6.cell? ⟨pu, m * 4, none⟩ = some (.int .i64 u.1) ∧ w6.cell? ⟨pu, m * 4 + 1, none⟩ = some (.slice xa u.2.length xc) ∧ w6.cell? ⟨pu, m * 4 + 2, none⟩ = some (.int .i64 0) ∧ w6.cell? ⟨pu, m * 4 + 3, none⟩ = some (.string ⟨#[]⟩) := ⟨below_cell y6 c0, below_cell y6 c1, below_cell y6 c2, below_cell y6 c3⟩
            have L1 := HL.out.below y6
            have HA1 := Lib.hid (alloc_size w6 (.cells #[.int .i64 1, .int .i64 ((m : Int) + 1), .slice none 0 0] 104))
            have HQQ := Lib.hid (L1.o.alloc (.cells #[.int .i64 1, .int .i64 ((m : Int) + 1), .slice none 0 0] 104))
            have HL1 := Lib.hid L1
            have h1s := L1.k.size
            clear hC L1 c0 c1 c2 c3 dU
            go_wp2_with (at_builtin; go_must (refine wpList_append_lies _ rfl _ _ 81 rfl w.heap.size 104 i3 _ 3 40 Tryz.underlying81 hi3 hz30 hz31 hz32 rfl (by omega) ov vs.length (cellsN vs) rfl HQQ.out ⟨w6.heap.size, 0, none⟩ 1 1 [.int .i64 1, .int .i64 ((m : Int) + 1), .slice none 0 0] rfl rfl (World.news_of_block (World.heap_alloc_new w6 (.cells #[.int .i64 1, .int .i64 ((m : Int) + 1), .slice none 0 0] 104))) (by intro u hu; simp only [List.mem_cons, List.not_mem_nil, or_false] at hu; rcases hu with rfl | rfl | rfl <;> rfl) (by omega) (by unfold maxLen; omega) (by omega) (by rw [HA1.out]; omega) (w6.heap.size + 1) HA1.out ?_))
            intro p q w2 o2 g2 hp2 _
            have L2 := HL1.out.tell (x := (1, (m : Int) + 1, (none, 0, 0))) (f := []) (SRow.nil _) (safe_nil _ _) o2 g2
            have HL2 := Lib.hid L2
            clear L2 o2 g2 hp2
            go_wp2_with fail
            go_roundg m
            case measure => omega
            case rel =>
              obtain ⟨e1, e2⟩ := HKG.out (by rw [HF.out]; rfl)
              refine ⟨_, .slice (some ⟨p, 0, none⟩) (vs.length + 1) q, rv, vs ++ [((1 : Int), (m : Int) + 1, ((none, 0, 0) : Option Addr × Nat × Nat))], rfl, rfl, by omega, rfl, rfl, ?_, ?_⟩
              · rw [e1, e2]; exact HL2.out
              · rw [List.length_append]; simp; omega
          · have hf : foundB b.ls u = true := by
              cases hfb : foundB b.ls u with
              | true => rfl
              | false => exact absurd (hq.1.2 hfb) hneg
            have HF := Lib.hid hf
            clear hf hq
            go_upto_region 6 with fail
            have yd : Below wr.heap.size wr wr.drew := (Below.refl _ wr).drew
            have hSd := HST.out _ yd
            have cFd := HCF.out _ yd
            rw [show findI b.ls u.1 = fI from HFIE.out] at cFd
            go_region_held3 (fun W => W.cell? ⟨D, 0, none⟩ = some (.int .i64 b.valid) ∧ W.cell? ⟨D, 1, none⟩ = some (.int .i64 b.next) ∧ W.cell? ⟨D, 2, none⟩ = some (.slice ao zs.length cap) ∧ W.cell? ⟨U, 0, none⟩ = some (.slice (some ⟨pu, 0, none⟩) us.length qu) ∧ W.cell? ⟨pu, m * 4, none⟩ = some (.int .i64 u.1))
              (first | exact hSd | exact hS2)
              ((go_at_call 13; (with_reducible refine cFd.mono ?_); rintro e' w6 ⟨rfl, h6⟩; have y6 := yd.trans (h6.mono yd.size); have hS2 := HST.out _ y6))
            go_upto_region 8 with fail
            clear HKG
            have hC : w6.cell? ⟨pu, m * 4, none⟩ = some (.int .i64 u.1) ∧ w6.cell? ⟨pu, m * 4 + 1, none⟩ = some (.slice xa u.2.length xc) ∧ w6.cell? ⟨pu, m * 4 + 2, none⟩ = some (.int .i64 0) ∧ w6.cell? ⟨pu, m * 4 + 3, none⟩ = some (.string ⟨#[]⟩) := ⟨below_cell y6 c0, below_cell y6 c1, below_cell y6 c2, below_cell y6 c3⟩
            have L1 := HL.out.below y6
            clear c0 c1 c2 c3 dU
            have dU := one_cell L1.hU
            have HL1 := Lib.hid L1
            have c0 := hC.1; have c1 := hC.2.1; have c2 := hC.2.2.1; have c3 := hC.2.2.2
            clear hC L1
            obtain ⟨rs, hFr, hor⟩ := HL1.out.c
            have hkl := kF_len b.ls us true (m + 1)
            have hrl := hFr.len
            obtain ⟨ra, rc, hrv⟩ := owns_val hor
            rw [← hrl] at hor
            have oN : (w6.alloc (.cells #[.int .i64 u.1, .slice xa u.2.length xc, .int .i64 0, .string ⟨#[]⟩] 51)).ownsRow w6.heap.size 51 4 (.slice (some ⟨w6.heap.size, 0, none⟩) 1 1) [((mkL u : Let), Value.slice xa u.2.length xc)].length (cellsL [((mkL u : Let), Value.slice xa u.2.length xc)]) := World.ownsRow_lit w6 _ 1 (Nat.le_refl _) (by decide) rfl
            have yN : Below w6.heap.size w6 (w6.alloc (.cells #[.int .i64 u.1, .slice xa u.2.length xc, .int .i64 0, .string ⟨#[]⟩] 51)) := (Below.refl _ _).alloc (Nat.le_refl _) _
            have zN : ZRow (w6.alloc (.cells #[.int .i64 u.1, .slice xa u.2.length xc, .int .i64 0, .string ⟨#[]⟩] 51)) (.slice ra rs.length rc) rs := by
              have hkk := HL1.out.k
              have h1 := zrow_owns hor (fun z hz => (hFr.2 z hz).1.kept (hFr.2 z hz).2 hkk HSP.out)
              rw [hrv, ← hrl] at h1
              exact h1.below yN
            rw [← hrl] at hrv
            subst hrv
            have hsN : w6.heap.size ≤ (w6.alloc (.cells #[.int .i64 u.1, .slice xa u.2.length xc, .int .i64 0, .string ⟨#[]⟩] 51)).heap.size := yN.size
            have HFR := Lib.hid hFr
            clear hor hFr hrl
            go_wp2_with (at_builtin; go_must (refine wpList_appL rfl _ _ rfl w6.heap.size (.slice (some ⟨w6.heap.size, 0, none⟩) 1 1) [((mkL u : Let), Value.slice xa u.2.length xc)] _ rfl oN _ rs rc rfl zN ?hn2 hsN ?_))
            case hn2 => have := HFR.out.len; simp; omega
            intro v4 w4 o4 g4
            have y4 : Below w6.heap.size w6 w4 := yN.grown g4 yN.size (fun j e => by cases e; exact Nat.le_refl _)
            have hF4 : FR N w ([((mkL u : Let), Value.slice xa u.2.length xc)] ++ rs) (u :: kF b.ls us true (m + 1)) := HFR.out.cons HSU.out HVU.out
            have L4 := HL1.out.row y4 hF4 o4
            have HL4 := Lib.hid L4
            clear o4 g4 oN zN yN L4 hF4
            go_wp2_with fail
            go_roundg m
            case measure => omega
            case rel =>
              obtain ⟨e1, e2⟩ := HKS.out (by rw [HF.out]; rfl)
              exact ⟨_, ov, v4, vs, rfl, rfl, by omega, rfl, rfl, by rw [e1, e2]; exact HL4.out, by omega⟩
      · obtain rfl : gk = 0 := by omega
        obtain rfl : i = -1 := by omega
        clear hi hL
        go_wp2_with fail
        go_meet
        exact ⟨_, _, vs, rfl, rfl, HL.out, by omega⟩
  case rest =>
    obtain ⟨ov, rv, vs, rfl, rfl, hL, hvl⟩ := hcut
    clear HL0
    obtain ⟨us1, hus1⟩ : ∃ us1, kF b.ls us gone 0 = us1 := ⟨_, rfl⟩
    obtain ⟨G1, hG1⟩ : ∃ G1, gN b.ls us gone 0 = G1 := ⟨_, rfl⟩
    have hl1 : us1.length ≤ us.length := by have := kF_len b.ls us gone 0; rw [hus1] at this; omega
    have HUS1 := Lib.hid hus1; have HG1 := Lib.hid hG1
    rw [hus1, hG1] at hL
    clear hus1 hG1
    obtain ⟨ra, rc, hrv⟩ : ∃ ra rc, rv = .slice ra us1.length rc := let ⟨_, _, h⟩ := hL.c; owns_val h
    subst hrv
    have d0 := one_cell hL.hU
    have f0 := Lib.frozen_of_heap hL.hU 0
    have hL2 := hL.setU (.slice ra us1.length rc)
    have d1 := one_cell hL2.hU
    have HL2 := Lib.hid hL2
    clear hL hL2
    go_upto_region 11 with fail
    clear d0 f0
    go_cut [11] (fun s11 wr => s11 = .int .i64 0 ∧ RLk N w U D b.valid b.next (.slice ao zs.length cap) wr (.slice ra us1.length rc) ov vs G1 (.slice ra us1.length rc) us1)
    case first =>
      go_wp2_with fail
      go_meet
      exact ⟨rfl, HL2.out⟩
    case rest =>
    obtain ⟨rfl, hL⟩ := hcut
    clear HL2 d1
    have HL := Lib.hid hL
    have d1 := one_cell hL.hU
    clear hL
    refine ‹∀ (a : Act) (w : World), Code.wp Tryz.prog _ _ a w → _› _ _ ?_
    refine wp_seq_k (fun K hK => ?_)
    go_cut [11] (fun s11 wr => s11 = .int .i64 (rlast us1) ∧ RLk N w U D b.valid b.next (.slice ao zs.length cap) wr (.slice ra us1.length rc) ov vs G1 (.slice ra us1.length rc) us1)
    case first =>
      by_cases h0 : us1.length = 0
      · have hnil := List.eq_nil_of_length_eq_zero h0
        have hlast : rlast us1 = 0 := by rw [hnil]; rfl
        have HLA := Lib.hid hlast
        have hz : ¬ (0 : Int) < (us1.length : Int) := by omega
        clear hlast hnil h0
        go_wp2_with fail
        go_meet
        exact ⟨by rw [HLA.out], HL.out⟩
      · obtain ⟨k, hk⟩ : ∃ k, us1.length = k + 1 := ⟨us1.length - 1, by omega⟩
        obtain ⟨u, hu⟩ : ∃ u, us1[k]? = some u := ⟨us1[k], List.getElem?_eq_getElem (by omega)⟩
        have hlast : rlast us1 = u.1 := by
          unfold rlast
          rw [List.getLast?_eq_getElem?, hk]
          show (match us1[k]? with | some u => u.1 | none => 0) = _
          rw [hu]
        obtain ⟨p, q, xa, xc, e1, e2, c0, _⟩ := HL.out.cell hu
        obtain ⟨rfl, rfl⟩ : ra = some ⟨p, 0, none⟩ ∧ rc = q := by
          injection e1 with e3 _ e4
          exact ⟨e3, e4⟩
        have HLA := Lib.hid hlast
        have hz : (0 : Int) < (us1.length : Int) := by omega
        have hz1 : 0 < us1.length := by omega
        have hz2 : ¬ us1 = [] := fun e => by rw [e] at hz1; cases hz1
        have hk1 : (us1.length : Int) - 1 = (k : Int) := by omega
        have hkw : wrap64 (k : Int) = (k : Int) := IntWalk.wrap64_in _ (by omega)
        have hkz : (k : Int) < (us1.length : Int) := by omega
        clear hlast hk hu h0 e1 e2
        go_wp2_with fail
        go_meet
        exact ⟨by rw [HLA.out], HL.out⟩
    case rest =>
    obtain ⟨rfl, hL⟩ := hcut
    clear d1 HL
    have d2 := (three_cells hL.hD).2.2
    have HL := Lib.hid hL
    clear hL
    obtain ⟨la, hla⟩ : ∃ la, rlast us1 = la := ⟨_, rfl⟩
    have HLA := Lib.hid hla
    rw [hla]
    clear hla
    refine ‹∀ (a : Act) (w : World), Code.wp Tryz.prog _ _ a w → _› _ _ ?_
    refine wp_seq_k (fun K hK => ?_)
    go_cut [79] (fun s79 wr => ∃ (vv : Value), RLk N w U D b.valid b.next (.slice ao zs.length cap) wr vv ov vs G1 vv (us1 ++ radd b.ls la))
    case first =>
      go_wp2_with fail
      go_loopg [79] zs.length (fun g s79 wr => ∃ (k : Nat) (vv : Value), k + g = zs.length ∧ s79 = .int .i64 (k : Int) ∧ RLk N w U D b.valid b.next (.slice ao zs.length cap) wr vv ov vs G1 vv (us1 ++ radd (b.ls.take k) la))
      case atStart => exact ⟨0, _, by omega, rfl, by rw [List.take_zero]; unfold radd; simpa using HL.out⟩
      case round =>
        obtain ⟨k, vv, hk, rfl, hL⟩ := hrel
        clear d2 HL
        by_cases hlt : k < zs.length
        · obtain ⟨g', rfl⟩ : ∃ g', gk = g' + 1 := ⟨gk - 1, by omega⟩
          obtain ⟨z, hzk⟩ : ∃ z, zs[k]? = some z := ⟨zs[k], List.getElem?_eq_getElem hlt⟩
          obtain ⟨p, off, xa, xc, cap', e1, e2, c0, c1, c2, c3, hS, hV⟩ := xrow_at (HX.out.kept hL.k HSP.out) hzk
          cases e1
          have hSw := zrow_flags HX.out.1 (List.mem_of_getElem? hzk)
          have hVw := HX.out.2.2 z (List.mem_of_getElem? hzk)
          rw [e2] at hSw hVw
          have hzm : b.ls[k]? = some z.1 := by rw [← HZ.out, List.getElem?_map, hzk]; rfl
          have hra : ∀ n, radd (b.ls.take (k + 1)) n = radd (b.ls.take k) n ++ if n < z.1.uid then [(z.1.uid, z.1.flags)] else [] := fun n => by
            unfold radd
            rw [List.take_add_one, hzm, List.filter_append, List.map_append]
            congr 1
            show (List.filter _ [z.1]).map _ = _
            by_cases h : n < z.1.uid
            · rw [if_pos h, List.filter_cons, if_pos (decide_eq_true h)]; rfl
            · rw [if_neg h, List.filter_cons, if_neg (by simpa using h)]; rfl
          have HRA := Lib.hid hra
          have hrl : (us1 ++ radd (b.ls.take k) la).length ≤ 200000 := by
            rw [List.length_append]
            unfold radd
            rw [List.length_map]
            have := List.length_filter_le (fun x : Let => decide (la < x.uid)) (b.ls.take k)
            rw [List.length_take] at this
            omega
          obtain ⟨⟨uid, ff, dy, tx⟩, zv⟩ := z
          dsimp only at *
          subst e2
          have hltz : (k : Int) < (zs.length : Int) := by omega
          have y5 := (Below.refl wr.heap.size wr).alloc (Nat.le_refl _) (.cells #[.int .i64 uid, .slice xa ff.length xc, .int .i64 dy, .string ⟨tx.toArray⟩] 51)
          have x5 := World.heap_alloc_new wr (.cells #[.int .i64 uid, .slice xa ff.length xc, .int .i64 dy, .string ⟨tx.toArray⟩] 51)
          have L5 := hL.below y5
          obtain ⟨wl, hw5⟩ : ∃ wl, wr.alloc (.cells #[.int .i64 uid, .slice xa ff.length xc, .int .i64 dy, .string ⟨tx.toArray⟩] 51) = wl := ⟨_, rfl⟩
          rw [hw5] at y5 x5 L5
          have HW5 := Lib.hid hw5
          obtain ⟨Lb, hLb⟩ : ∃ Lb, wr.heap.size = Lb := ⟨_, rfl⟩
          rw [hLb] at x5
          have HUL : Hid (U ≠ Lb) := by show _ ≠ _; have := (Array.getElem?_eq_some_iff.1 hL.hU).1; omega
          have HNL : Hid (some Lb ≠ vv.ownBlock) := by
            show _ ≠ _
            intro e
            obtain ⟨rs, _, ho⟩ := hL.c
            have := (ho.lt Lb e.symm).2
            omega
          have HLB := Lib.hid hLb; have HLW := Lib.hid L5; have HSW := Lib.hid hSw; have HVW := Lib.hid hVw
          have l0 := (four_cells x5).1
          have hbase : w.heap.size ≤ wl.heap.size := L5.k.size
          have hX5 := Lib.hid x5
          clear hw5 hzk hL hLb y5 L5 x5 hS hV hSw hVw hzm hra
          by_cases hn : la < uid
          · have E1 := Lib.hid ((HRA.out la).trans (by rw [if_pos hn]))
            go_upto_region 17 with fail
            rw [show wr.alloc (.cells #[.int .i64 uid, .slice xa ff.length xc, .int .i64 dy, .string ⟨tx.toArray⟩] 51) = wl from HW5.out, show wr.heap.size = Lb from HLB.out]
            clear c0 c1 c2 c3
            go_upto_region 18 with fail
            obtain ⟨fn, hfn⟩ : ∃ fn, ff.length = fn := ⟨_, rfl⟩
            obtain ⟨ldy, hldy⟩ : ∃ v, Value.int .i64 dy = v := ⟨_, rfl⟩
            obtain ⟨ltx, hltx⟩ : ∃ v, Value.string ⟨tx.toArray⟩ = v := ⟨_, rfl⟩
            obtain ⟨rs, hFr, hown⟩ := HLW.out.c
            obtain ⟨m, hm⟩ : ∃ m, (us1 ++ radd (b.ls.take k) la).length = m := ⟨_, rfl⟩
            obtain ⟨cs, hcs⟩ : ∃ cs, cellsL rs = cs := ⟨_, rfl⟩
            have hU := HLW.out.hU
            have hL := hX5.out
            rw [hcs, hm] at hown
            rw [hm] at hrl
            rw [hfn, hldy, hltx] at hL
            have HFN := Lib.hid hfn; have HCS := Lib.hid hcs; have HFR := Lib.hid hFr; have HM := Lib.hid hm
            clear hfn hldy hltx hcs hFr hm l0 hn
            have hUd : wl.drew.heap[U]? = some (.cells #[vv] 49 (0, 0)) := hU
            have hLd : wl.drew.heap[Lb]? = some (.cells #[.int .i64 uid, .slice xa fn xc, ldy, ltx] 51 (0, 0)) := hL
            have hod := hown.drew
            have hbd : w.heap.size ≤ wl.drew.heap.size := hbase
            have kd : Below wl.heap.size wl wl.drew := (Below.refl _ wl).drew
            have hS0 : (fun W : World => W.cell? ⟨Lb, 0, none⟩ = some (.int .i64 uid) ∧ W.cell? ⟨Lb, 1, none⟩ = some (.slice xa fn xc)) wl.drew := ⟨(four_cells hLd).1, (four_cells hLd).2.1⟩
            have hS1 : (fun W : World => W.cell? ⟨U, 0, none⟩ = some vv) wl.drew := one_cell hUd
            obtain ⟨i1, hi1, hz10, hz11, hz12⟩ := info_parts let_info
            refine until_start (S := fun W => W.cell? ⟨U, 0, none⟩ = some vv) (S0 := fun W => W.cell? ⟨Lb, 0, none⟩ = some (.int .i64 uid) ∧ W.cell? ⟨Lb, 1, none⟩ = some (.slice xa fn xc)) (t := 14) (by kernel_rfl) ?_
            generalize wl.drew = wd at *
            refine until_take0 (i := 0) (v := ?v0q1) rfl (by kernel_rfl) (by kernel_rfl) (by kernel_rfl) (by rfl) (fun _ _ _ h => h) (Or.inl ⟨by rfl, ?y0q1⟩) hS0 (fun _ => hS1) ?r0q1
            case y0q1 => (intro W hSw; (try dsimp only at hSw); go_simp; try with_reducible rfl)
            try simp only [Act.put, List.setIfInBounds_toArray, List.set_cons_zero, List.set_cons_succ]
            refine until_take0 (i := 1) (v := ?v1q1) rfl (by kernel_rfl) (by kernel_rfl) (by kernel_rfl) (by rfl) (fun _ _ _ h => h) (Or.inl ⟨by rfl, ?y1q1⟩) hS0 (fun _ => hS1) ?r1q1
            case y1q1 => (intro W hSw; (try dsimp only at hSw); go_simp; try with_reducible rfl)
            try simp only [Act.put, List.setIfInBounds_toArray, List.set_cons_zero, List.set_cons_succ]
            refine until_take0 (i := 2) (v := ?v2q1) rfl (by kernel_rfl) (by kernel_rfl) (by kernel_rfl) (by rfl) (fun _ _ _ h => h) (Or.inl ⟨by rfl, ?y2q1⟩) hS0 (fun _ => hS1) ?r2q1
            case y2q1 => (intro W hSw; (try dsimp only at hSw); go_simp; try with_reducible rfl)
            try simp only [Act.put, List.setIfInBounds_toArray, List.set_cons_zero, List.set_cons_succ]
            refine until_take0 (i := 3) (v := ?v3q1) rfl (by kernel_rfl) (by kernel_rfl) (by kernel_rfl) (by rfl) (fun _ _ _ h => h) (Or.inl ⟨by rfl, ?y3q1⟩) hS0 (fun _ => hS1) ?r3q1
            case y3q1 => (intro W hSw; (try dsimp only at hSw); go_simp; try with_reducible rfl)
            try simp only [Act.put, List.setIfInBounds_toArray, List.set_cons_zero, List.set_cons_succ]
            refine until_take (i := 4) (v := ?v4q1) rfl (by kernel_rfl) (by kernel_rfl) (by kernel_rfl) (by kernel_rfl) (fun _ _ _ h => h) (Or.inl ⟨by rfl, ?y4q1⟩) hS0 hS1 ?r4q1
            case y4q1 => (intro W hSw; (try dsimp only at hSw); go_simp; try with_reducible rfl)
            try simp only [Act.put, List.setIfInBounds_toArray, List.set_cons_zero, List.set_cons_succ]
            refine until_take0 (i := 5) (v := ?v5q1) rfl (by kernel_rfl) (by kernel_rfl) (by kernel_rfl) (by rfl) (fun _ _ _ h => h) (Or.inl ⟨by rfl, ?y5q1⟩) hS0 (fun _ => hS1) ?r5q1
            case y5q1 => (intro W hSw; (try dsimp only at hSw); go_simp; try with_reducible rfl)
            try simp only [Act.put, List.setIfInBounds_toArray, List.set_cons_zero, List.set_cons_succ]
            refine until_take0 (i := 6) (v := ?v6q1) rfl (by kernel_rfl) (by kernel_rfl) (by kernel_rfl) (by rfl) (fun _ _ _ h => h) (Or.inl ⟨by rfl, ?y6q1⟩) hS0 (fun _ => hS1) ?r6q1
            case y6q1 => (intro W hSw; (try dsimp only at hSw); go_simp; try with_reducible rfl)
            try simp only [Act.put, List.setIfInBounds_toArray, List.set_cons_zero, List.set_cons_succ]
            refine until_take0 (i := 7) (v := ?v7q1) rfl (by kernel_rfl) (by kernel_rfl) (by kernel_rfl) (by rfl) (fun _ _ _ h => h) (Or.inl ⟨by rfl, ?y7q1⟩) hS0 (fun _ => hS1) ?r7q1
            case y7q1 => (intro W hSw; (try dsimp only at hSw); go_simp; try with_reducible rfl)
            try simp only [Act.put, List.setIfInBounds_toArray, List.set_cons_zero, List.set_cons_succ]
            refine until_take0 (i := 8) (v := ?v8q1) rfl (by kernel_rfl) (by kernel_rfl) (by kernel_rfl) (by rfl) (fun _ _ _ h => h) (Or.inl ⟨by rfl, ?y8q1⟩) hS0 (fun _ => hS1) ?r8q1
            case y8q1 => (intro W hSw; (try dsimp only at hSw); go_simp; try with_reducible rfl)
            try simp only [Act.put, List.setIfInBounds_toArray, List.set_cons_zero, List.set_cons_succ]
            refine until_take0 (i := 9) (v := ?v9q1) rfl (by kernel_rfl) (by kernel_rfl) (by kernel_rfl) (by rfl) (fun _ _ _ h => h) (Or.inl ⟨by rfl, ?y9q1⟩) hS0 (fun _ => hS1) ?r9q1
            case y9q1 => (intro W hSw; (try dsimp only at hSw); go_simp; try with_reducible rfl)
            try simp only [Act.put, List.setIfInBounds_toArray, List.set_cons_zero, List.set_cons_succ]
            have hUa := alloc_at (o := (.cells #[.int .i64 uid, .slice xa fn xc, .int .i64 0, .string ⟨#[]⟩] 51)) hUd
            have hLa := alloc_at (o := (.cells #[.int .i64 uid, .slice xa fn xc, .int .i64 0, .string ⟨#[]⟩] 51)) hLd
            have hoa := hod.alloc (.cells #[.int .i64 uid, .slice xa fn xc, .int .i64 0, .string ⟨#[]⟩] 51)
            have hsa := alloc_size wd (.cells #[.int .i64 uid, .slice xa fn xc, .int .i64 0, .string ⟨#[]⟩] 51)
            have hba : w.heap.size ≤ (wd.alloc (.cells #[.int .i64 uid, .slice xa fn xc, .int .i64 0, .string ⟨#[]⟩] 51)).heap.size := by rw [hsa]; omega
            have hNw : ∀ j u, (cells1 ((mkL (uid, ff) : Let), Value.slice xa fn xc))[j]? = some u → (wd.alloc (.cells #[.int .i64 uid, .slice xa fn xc, .int .i64 0, .string ⟨#[]⟩] 51)).cell? ((⟨wd.heap.size, 0, none⟩ : Addr).add j) = some u := World.news_of_block (World.heap_alloc_new wd (.cells #[.int .i64 uid, .slice xa fn xc, .int .i64 0, .string ⟨#[]⟩] 51))
            have HUA := Lib.hid hUa; have HLA := Lib.hid hLa; have HOA := Lib.hid hoa; have HSA := Lib.hid hsa; have HNW := Lib.hid hNw; have HOD := Lib.hid hod; have HUD := Lib.hid hUd; have HLD := Lib.hid hLd
            clear hUa hLa hoa hsa hNw hod hUd hLd hS0 hS1
            refine until_step (i := 10) (by kernel_rfl) rfl (fun K hK => ?_)
            go_simp
            refine hK.out _ _ ⟨(four_cells HLA.out).1, (four_cells HLA.out).2.1⟩ (fun _ _ => one_cell HUA.out) ?_
            clear hK K
            try simp only [Act.put, List.setIfInBounds_toArray, List.set_cons_zero, List.set_cons_succ]
            refine until_step (i := 11) (by kernel_rfl) rfl (fun K hK => ?_)
            refine step_append_lies _ (by rfl) (.tmp 91) (.tmp 97) 22 (by rfl) w.heap.size 51 i1 _ 4 56 Tryz.underlying22 hi1 hz10 hz11 hz12 let_z (by decide) vv m cs (by rfl) HOA.out ⟨wd.heap.size, 0, none⟩ 1 1 (cells1 ((mkL (uid, ff) : Let), Value.slice xa fn xc)) (by rfl) (by rfl) HNW.out (by intro u hu; simp only [cells1, List.mem_cons, List.not_mem_nil, or_false] at hu; rcases hu with rfl | rfl | rfl | rfl <;> rfl) (by decide) (by unfold maxLen; omega) (by omega) hba (wd.heap.size + 1) HSA.out ?_
            intro p4 c4 w4 ho4 hg4 hp4 hp4l
            have hU4 := grown_keeps HUD.out (by intro c fz h; cases h) HOD.out hg4
            have hL4 : w4.cell? ⟨Lb, 0, none⟩ = some (.int .i64 uid) ∧ w4.cell? ⟨Lb, 1, none⟩ = some (.slice xa fn xc) := by
              have hlt : Lb < (wd.alloc (.cells #[.int .i64 uid, .slice xa fn xc, .int .i64 0, .string ⟨#[]⟩] 51)).heap.size := (Array.getElem?_eq_some_iff.1 HLA.out).1
              exact ⟨(hg4.cell_far _ hlt HNL.out).trans (four_cells HLA.out).1, (hg4.cell_far _ hlt HNL.out).trans (four_cells HLA.out).2.1⟩
            have kg : Kept (fun j => vv.ownBlock = some j) wd w4 := ((Kept.refl _ wd).alloc _).trans ((kept_grown hg4).mono (fun j _ h => h))
            have kg2 : Kept (fun j => vv.ownBlock = some j) wl w4 := (kept_below kd).trans kg
            have hsz4 : wd.heap.size + 1 ≤ w4.heap.size := by have := hg4.size; rw [HSA.out] at this; exact this
            have HU4 := Lib.hid hU4; have HL4 := Lib.hid hL4; have HO4 := Lib.hid ho4; have HKG := Lib.hid kg2; have HP4 := Lib.hid hp4; have HSZ4 := Lib.hid hsz4
            have f0 : w4.frozen? ⟨U, 0, none⟩ = false := Lib.frozen_of_heap hU4 0
            have d0 := one_cell hU4
            clear hU4 hL4 ho4 hg4 hp4 kg kg2 HNW HOA HUA HLA hba hsz4
            refine hK.out _ _ HL4.out (fun _ _ => d0) ?_
            clear hK K
            try simp only [Act.put, List.setIfInBounds_toArray, List.set_cons_zero, List.set_cons_succ]
            refine until_step (i := 12) (by kernel_rfl) rfl (fun K hK => ?_)
            go_simp
            refine hK.out _ _ HL4.out (fun _ _ => d0) ?_
            clear hK K
            try simp only [Act.put, List.setIfInBounds_toArray, List.set_cons_zero, List.set_cons_succ]
            refine until_step (i := 13) (by kernel_rfl) rfl (fun K hK => ?_)
            go_simp
            refine hK.out _ _ HL4.out (fun _ _ => d0) ?_
            clear hK K
            try simp only [Act.put, List.setIfInBounds_toArray, List.set_cons_zero, List.set_cons_succ]
            have hL5 : (w4.setCell ⟨U, 0, none⟩ (.slice (some ⟨p4, 0, none⟩) (m + 1) c4)).cell? ⟨Lb, 0, none⟩ = some (.int .i64 uid) ∧ (w4.setCell ⟨U, 0, none⟩ (.slice (some ⟨p4, 0, none⟩) (m + 1) c4)).cell? ⟨Lb, 1, none⟩ = some (.slice xa fn xc) := by
              have e := Below.heap_setCell w4 ⟨U, 0, none⟩ (.slice (some ⟨p4, 0, none⟩) (m + 1) c4) Lb (fun e => HUL.out e.symm)
              exact ⟨(World.cell?_of_block e).trans HL4.out.1, (World.cell?_of_block e).trans HL4.out.2⟩
            have HL5 := Lib.hid hL5
            clear hL5
            refine until_step (i := 14) (by kernel_rfl) rfl (fun K hK => ?_)
            go_simp
            refine hK.out _ _ HL5.out (fun h _ => absurd rfl h) ?_
            clear hK K
            try simp only [Act.put, List.setIfInBounds_toArray, List.set_cons_zero, List.set_cons_succ]
            refine until_done (by kernel_rfl) ?_ _
            have hrsl : rs.length = m := HFR.out.len.trans HM.out
            have hF6 : FR N w (rs ++ [((mkL (uid, ff) : Let), Value.slice xa fn xc)]) (us1 ++ radd (b.ls.take k) la ++ [(uid, ff)]) := HFR.out.snoc (u := (uid, ff)) (by rw [← HFN.out]; exact HSW.out) (by rw [← HFN.out]; exact HVW.out)
            have ho6 : w4.ownsRow w.heap.size 51 4 (.slice (some ⟨p4, 0, none⟩) (m + 1) c4) (rs ++ [((mkL (uid, ff) : Let), Value.slice xa fn xc)]).length (cellsL (rs ++ [((mkL (uid, ff) : Let), Value.slice xa fn xc)])) := by
              rw [cellsL_app, List.length_append, hrsl, HCS.out]
              exact HO4.out
            have L6 := (HLW.out.grow HKG.out hF6 ho6).setU (.slice (some ⟨p4, 0, none⟩) (m + 1) c4)
            have HL6 := Lib.hid L6
            clear L6 ho6 hF6 hown hU hL d0 f0
            go_wp2_with fail
            go_roundg g'
            case measure => omega
            case rel => exact ⟨k + 1, _, by omega, by go_num, by rw [E1.out, ← List.append_assoc]; exact HL6.out⟩
          · have E1 : Hid (radd (b.ls.take (k + 1)) la = radd (b.ls.take k) la) := (HRA.out la).trans (by rw [if_neg hn, List.append_nil])
            go_upto_region 17 with fail
            rw [show wr.alloc (.cells #[.int .i64 uid, .slice xa ff.length xc, .int .i64 dy, .string ⟨tx.toArray⟩] 51) = wl from HW5.out, show wr.heap.size = Lb from HLB.out]
            clear c0 c1 c2 c3
            go_wp2_with fail
            go_roundg g'
            case measure => omega
            case rel => exact ⟨k + 1, vv, by omega, by go_num, by rw [E1.out]; exact HLW.out⟩
        · have hkn : k = zs.length := by omega
          have E1 : Hid (b.ls.take k = b.ls) := List.take_of_length_le (by rw [hkn, ← HZ.out, List.length_map]; exact Nat.le_refl _)
          rw [E1.out] at hL
          have HL := Lib.hid hL
          clear hL
          go_wp2_with fail
          go_meet
          exact ⟨_, HL.out⟩
    case rest =>
    obtain ⟨vv, hL⟩ := hcut
    clear d2 HL
    obtain ⟨A, hA⟩ : ∃ A, radd b.ls la = A := ⟨_, rfl⟩
    have HA := Lib.hid hA
    rw [hA] at hL
    clear hA
    obtain ⟨M, hM⟩ : ∃ M : List Nw, (if 0 < A.length then [(⟨2, ((us1.length + A.length : Nat) : Int), []⟩ : Nw)] else []) = M := ⟨_, rfl⟩
    have HM := Lib.hid hM
    clear hM
    obtain ⟨n2, hn2⟩ : ∃ n2, (us1 ++ A).length = n2 := ⟨_, rfl⟩
    have hA2 : n2 = us1.length + A.length := by rw [← hn2, List.length_append]
    have hAl : A.length ≤ 100000 := by
      rw [← HA.out]
      unfold radd
      rw [List.length_map]
      have := List.length_filter_le (fun x : Let => decide (la < x.uid)) b.ls
      omega
    obtain ⟨va, vc, hvv⟩ : ∃ va vc, vv = .slice va n2 vc := by
      obtain ⟨rs, _, h⟩ := hL.c
      rw [hn2] at h
      exact owns_val h
    subst hvv
    have HN2 := Lib.hid hn2; have HA2 := Lib.hid hA2
    have d0 := one_cell hL.hU
    have HL := Lib.hid hL
    clear hL hn2 hA2
    refine ‹∀ (a : Act) (w : World), Code.wp Tryz.prog _ _ a w → _› _ _ ?_
    refine wp_seq_k (fun K hK => ?_)
    go_cut [7] (fun s7 wr => ∃ (ov' : Value) (vs' : NV), ov' = s7 ∧ RLk N w U D b.valid b.next (.slice ao zs.length cap) wr (.slice va n2 vc) ov' vs' (G1 ++ M) (.slice va n2 vc) (us1 ++ A) ∧ vs'.length ≤ us.length + 1)
    case first =>
      by_cases h0 : us1.length < n2
      · have hz : (us1.length : Int) < (n2 : Int) := by omega
        have E1 : Hid (M = [⟨2, (n2 : Int), []⟩]) := by show M = _; rw [← HM.out, if_pos (by have := HA2.out; omega), HA2.out]
        go_upto_region 21 with fail
        have LX := HL.out
        have HA1 := Lib.hid (alloc_size wc (.cells #[.int .i64 2, .int .i64 (n2 : Int), .slice none 0 0] 104))
        have HQQ := Lib.hid (LX.o.alloc (.cells #[.int .i64 2, .int .i64 (n2 : Int), .slice none 0 0] 104))
        have HLX := Lib.hid LX
        have h1s := LX.k.size
        clear LX
        go_wp2_with (at_builtin; go_must (refine wpList_append_lies _ rfl _ _ 81 rfl w.heap.size 104 i3 _ 3 40 Tryz.underlying81 hi3 hz30 hz31 hz32 rfl (by omega) ov vs.length (cellsN vs) rfl HQQ.out ⟨wc.heap.size, 0, none⟩ 1 1 [.int .i64 2, .int .i64 (n2 : Int), .slice none 0 0] rfl rfl (World.news_of_block (World.heap_alloc_new wc (.cells #[.int .i64 2, .int .i64 (n2 : Int), .slice none 0 0] 104))) (by intro u hu; simp only [List.mem_cons, List.not_mem_nil, or_false] at hu; rcases hu with rfl | rfl | rfl <;> rfl) (by omega) (by unfold maxLen; omega) (by omega) (by rw [HA1.out]; omega) (wc.heap.size + 1) HA1.out ?_))
        intro p5 q5 w5 o5 g5 hp5 _

        have L2 := HLX.out.tell (x := (2, (n2 : Int), (none, 0, 0))) (f := []) (SRow.nil _) (safe_nil _ _) o5 g5
        have HL2 := Lib.hid L2
        clear L2 o5 g5 hp5
        go_wp2_with fail
        go_meet
        refine ⟨_, vs ++ [((2 : Int), (n2 : Int), ((none, 0, 0) : Option Addr × Nat × Nat))], rfl, ?_, by rw [List.length_append]; simp; omega⟩
        rw [E1.out]; exact HL2.out
      · have hz : ¬ (us1.length : Int) < (n2 : Int) := by omega
        have E1 : Hid (M = []) := by show M = _; rw [← HM.out, if_neg (by have := HA2.out; omega)]
        go_wp2_with fail
        go_meet
        exact ⟨_, vs, rfl, by rw [E1.out, List.append_nil]; exact HL.out, by omega⟩
    case rest =>
    obtain ⟨ov2, vs2, rfl, hL, hvl2⟩ := hcut
    clear HL d0
    have HL := Lib.hid hL
    clear hL
    have h12 : us1.length ≤ n2 := by have := HA2.out; omega
    refine ‹∀ (a : Act) (w : World), Code.wp Tryz.prog _ _ a w → _› _ _ ?_
    refine wp_seq_k (fun K hK => ?_)
    go_wp2_with fail
    go_loopg [7, 119] us1.length (fun g s7 s119 wr => ∃ (i : Nat) (ov3 : Value) (vs3 : NV), i + g = us1.length ∧ s119 = .int .i64 (i : Int) ∧ ov3 = s7 ∧ RLk N w U D b.valid b.next (.slice ao zs.length cap) wr (.slice va n2 vc) ov3 vs3 (G1 ++ M ++ chF b.ls 0 (us1.take i)) (.slice va n2 vc) (stF b.ls us1 i ++ A) ∧ vs3.length ≤ us.length + 1 + i)
    case atStart => exact ⟨0, _, vs2, by omega, rfl, rfl, by rw [List.take_zero, stF_zero, show chF b.ls 0 [] = [] from rfl, List.append_nil]; exact HL.out, by omega⟩
    case round =>
      obtain ⟨i, ov3, vs3, hi, rfl, rfl, hL, hvl3⟩ := hrel
      clear HL
      by_cases hlt : i < us1.length
      · obtain ⟨g', rfl⟩ : ∃ g', gk = g' + 1 := ⟨gk - 1, by omega⟩
        obtain ⟨u, hu⟩ : ∃ u, us1[i]? = some u := ⟨us1[i], List.getElem?_eq_getElem hlt⟩
        have hgu : (stF b.ls us1 i ++ A)[i]? = some u := by rw [List.getElem?_append_left (by rw [stF_len]; exact hlt)]; exact stF_at2 hu
        have hrowl : (stF b.ls us1 i ++ A).length = n2 := by rw [List.length_append, stF_len]; exact HA2.out.symm
        obtain ⟨p, q, xa, xc, e1, hpw, c0, c1, f1, hSu, hVu⟩ := hL.cell hgu
        rw [hrowl] at e1
        obtain ⟨rfl, rfl⟩ : va = some ⟨p, 0, none⟩ ∧ vc = q := by
          injection e1 with e3 _ e4
          exact ⟨e3, e4⟩
        have huin : u ∈ us := by
          have h1 := List.mem_of_getElem? hu
          rw [← HUS1.out] at h1
          unfold kF at h1
          split at h1
          · exact List.mem_of_mem_drop (List.mem_filter.1 h1).1
          · exact List.mem_of_mem_drop h1
        have hfu2 := HFU.out u huin
        have dU := one_cell hL.hU
        obtain ⟨b0, b1, b2⟩ := three_cells hL.hD
        have hST : ∀ W, Below wr.heap.size wr W → W.cell? ⟨D, 0, none⟩ = some (.int .i64 b.valid) ∧ W.cell? ⟨D, 1, none⟩ = some (.int .i64 b.next) ∧ W.cell? ⟨D, 2, none⟩ = some (.slice ao zs.length cap) ∧ W.cell? ⟨U, 0, none⟩ = some (.slice (some ⟨p, 0, none⟩) n2 vc) ∧ W.cell? ⟨p, i * 4, none⟩ = some (.int .i64 u.1) := fun W hW => ⟨below_cell hW b0, below_cell hW b1, below_cell hW b2, below_cell hW dU, below_cell hW c0⟩
        have HST := Lib.hid hST
        have HL := Lib.hid hL
        have hcF : ∀ W, Below wr.heap.size wr W → Calls Tryz.prog 13 #[.agg #[.int .i64 b.valid, .int .i64 b.next, .slice ao zs.length cap], .int .i64 u.1] W fun e w' => e = .returned (.int .i64 (findI b.ls u.1)) ∧ Below W.heap.size W w' := fun W hW => HFIND.out _ _ (HL.out.k.trans (kept_below hW))
        have HCF := Lib.hid hcF
        have hiz : (i : Int) < (n2 : Int) := by omega
        have hizu : (i : Int) < (us1.length : Int) := by omega
        have HGU := Lib.hid hgu; have HU1 := Lib.hid hu; have HSU := Lib.hid hSu; have HVU := Lib.hid hVu; have HRL := Lib.hid hrowl
        have HC1 := Lib.hid c1; have HF1 := Lib.hid f1
        clear hL hu hgu hSu hVu e1 b0 b1 b2 hST hcF hrowl huin dU c0 c1 f1
        go_upto_region 25 with fail
        have yd : Below wr.heap.size wr wr.drew := (Below.refl _ wr).drew
        have hSd := HST.out _ yd
        have cFd := HCF.out _ yd
        cases hfk : findB b.ls u.1 with
        | none =>
          have hnow := nowF_none hfk
          have HNOW := Lib.hid hnow
          rw [show findI b.ls u.1 = -1 by unfold findI; rw [hfk]] at cFd
          clear hfk hnow
          go_region_held3 (fun W => W.cell? ⟨D, 0, none⟩ = some (.int .i64 b.valid) ∧ W.cell? ⟨D, 1, none⟩ = some (.int .i64 b.next) ∧ W.cell? ⟨D, 2, none⟩ = some (.slice ao zs.length cap) ∧ W.cell? ⟨U, 0, none⟩ = some (.slice (some ⟨p, 0, none⟩) n2 vc) ∧ W.cell? ⟨p, i * 4, none⟩ = some (.int .i64 u.1))
            (first | exact hSd | exact hS2)
            ((go_at_call 13; (with_reducible refine cFd.mono ?_); rintro e' w6 ⟨rfl, h6⟩; have y6 := yd.trans (h6.mono yd.size); have hS2 := HST.out _ y6))
          clear hSd hS2 cFd
          go_upto_region 26 with fail
          go_quiet (fail)
          obtain ⟨W6, hW6⟩ : ∃ W6, w6.drewN nq = W6 := ⟨_, rfl⟩
          have y7 : Below wr.heap.size wr W6 := hW6 ▸ y6.trans ((below_drewN w6 nq).mono y6.size)
          rw [hW6]
          clear hW6
          have HL2 := Lib.hid (HL.out.below y7)
          go_wp2_with fail
          go_roundg g'
          case measure => omega
          case rel =>
            refine ⟨i + 1, _, vs3, by omega, by go_num, rfl, ?_, by omega⟩
            rw [chF_take HU1.out, HNOW.out, if_pos rfl, List.append_nil, stF_same2 HU1.out HNOW.out]
            exact HL2.out
        | some k =>
          obtain ⟨x, hx, _⟩ := findB_some hfk
          have hnow := nowF_some hfk hx
          have HNOW := Lib.hid hnow
          obtain ⟨z, hzk, hzx⟩ : ∃ z, zs[k]? = some z ∧ z.1 = x := by
            have := hx
            rw [← HZ.out, List.getElem?_map] at this
            obtain ⟨z, e1, e2⟩ := Option.map_eq_some_iff.1 this
            exact ⟨z, e1, e2⟩
          have hxf := HFL.out x (List.mem_of_getElem? hx)
          rw [show findI b.ls u.1 = (k : Int) by unfold findI; rw [hfk]] at cFd
          have hkz : (k : Int) < (zs.length : Int) := by have := (List.getElem?_eq_some_iff.1 hzk).1; omega
          -- the letter's flags, wherever the blocks from before are kept
          obtain ⟨pl, off, ya, yc, cap', hv, hz2, _, _, _, _, hSx, hVx⟩ := xrow_at HX.out hzk
          obtain ⟨rfl, rfl⟩ : ao = some ⟨pl, off, none⟩ ∧ cap = cap' := by
            injection hv with e1 _ e3
            exact ⟨e1, e3⟩
          rw [hzx] at hSx hVx hz2
          have hlv : ∀ W, Kept (fun j => j = U) w W → W.cell? ⟨pl, off + k * 4 + 1, none⟩ = some (.slice ya x.flags.length yc) := fun W hW => by
            obtain ⟨pl', off', ya', yc', cap2, hv', hz2', _, c1', _⟩ := xrow_at (HX.out.kept hW HSP.out) hzk
            rw [hzx] at c1' hz2'
            injection hv' with e1 _ _
            injection e1 with e1
            injection e1 with e2 e3 _
            rw [hz2] at hz2'
            rw [e2, e3, c1', ← hz2']
          have HLV := Lib.hid hlv; have HSX := Lib.hid hSx; have HVX := Lib.hid hVx
          clear hfk hx hzk hzx hv hz2 hSx hVx hlv hnow
          go_region_held3 (fun W => W.cell? ⟨D, 0, none⟩ = some (.int .i64 b.valid) ∧ W.cell? ⟨D, 1, none⟩ = some (.int .i64 b.next) ∧ W.cell? ⟨D, 2, none⟩ = some (.slice (some ⟨pl, off, none⟩) zs.length cap) ∧ W.cell? ⟨U, 0, none⟩ = some (.slice (some ⟨p, 0, none⟩) n2 vc) ∧ W.cell? ⟨p, i * 4, none⟩ = some (.int .i64 u.1))
            (first | exact hSd | exact hS2)
            ((go_at_call 13; (with_reducible refine cFd.mono ?_); rintro e' w6 ⟨rfl, h6⟩; have y6 := yd.trans (h6.mono yd.size); have hS2 := HST.out _ y6))
          clear hSd hS2 cFd
          go_upto_region 26 with fail
          have hst6 := HST.out _ y6
          have HL6 := Lib.hid (HL.out.below y6)
          have cQ : ∀ W, Below wr.heap.size wr W → Calls Tryz.prog 19 #[.slice ya x.flags.length yc, .slice xa u.2.length xc] W fun e w' => e = .returned (.bool (decide (x.flags = u.2))) ∧ Below W.heap.size W w' := fun W hW => rsame_any _ _ x.flags u.2 W (HSX.out.kept HVX.out (HL.out.k.trans (kept_below hW)) HSP.out) (HSU.out.kept HVU.out (HL.out.k.trans (kept_below hW)) HSP.out) hxf hfu2
          have hT : ∀ W, Below wr.heap.size wr W → W.cell? ⟨D, 2, none⟩ = some (.slice (some ⟨pl, off, none⟩) zs.length cap) ∧ W.cell? ⟨U, 0, none⟩ = some (.slice (some ⟨p, 0, none⟩) n2 vc) ∧ W.cell? ⟨pl, off + k * 4 + 1, none⟩ = some (.slice ya x.flags.length yc) ∧ W.cell? ⟨p, i * 4 + 1, none⟩ = some (.slice xa u.2.length xc) := fun W hW => ⟨(HST.out W hW).2.2.1, (HST.out W hW).2.2.2.1, HLV.out W (HL.out.k.trans (kept_below hW)), below_cell hW HC1.out⟩
          have HT := Lib.hid hT
          have HCQ := Lib.hid cQ
          clear hst6 cQ hT
          have y6d := y6.trans ((Below.refl _ w6).drew.mono y6.size)
          have hTd := HT.out _ y6d
          have cQd := HCQ.out _ y6d
          by_cases heq : x.flags = u.2
          · rw [decide_eq_true heq] at cQd
            have hnu : nowF b.ls u = u := by rw [HNOW.out, heq]
            have HNU := Lib.hid hnu
            clear hnu heq
            go_region_held3 (fun W => W.cell? ⟨D, 2, none⟩ = some (.slice (some ⟨pl, off, none⟩) zs.length cap) ∧ W.cell? ⟨U, 0, none⟩ = some (.slice (some ⟨p, 0, none⟩) n2 vc) ∧ W.cell? ⟨pl, off + k * 4 + 1, none⟩ = some (.slice ya x.flags.length yc) ∧ W.cell? ⟨p, i * 4 + 1, none⟩ = some (.slice xa u.2.length xc))
              (first | exact hTd | exact hT2)
              ((go_at_call 19; (with_reducible refine cQd.mono ?_); rintro e' w8 ⟨rfl, h8⟩; have y8 := y6d.trans (h8.mono y6d.size); have hT2 := HT.out _ y8))
            have HL2 := Lib.hid (HL.out.below y8)
            clear hTd hT2 cQd
            go_wp2_with fail
            go_roundg g'
            case measure => omega
            case rel =>
              refine ⟨i + 1, _, vs3, by omega, by go_num, rfl, ?_, by omega⟩
              rw [chF_take HU1.out, HNU.out, if_pos rfl, List.append_nil, stF_same2 HU1.out HNU.out]
              exact HL2.out
          · rw [decide_eq_false heq] at cQd
            have HNE := Lib.hid heq
            clear heq
            go_region_held3 (fun W => W.cell? ⟨D, 2, none⟩ = some (.slice (some ⟨pl, off, none⟩) zs.length cap) ∧ W.cell? ⟨U, 0, none⟩ = some (.slice (some ⟨p, 0, none⟩) n2 vc) ∧ W.cell? ⟨pl, off + k * 4 + 1, none⟩ = some (.slice ya x.flags.length yc) ∧ W.cell? ⟨p, i * 4 + 1, none⟩ = some (.slice xa u.2.length xc))
              (first | exact hTd | exact hT2)
              ((go_at_call 19; (with_reducible refine cQd.mono ?_); rintro e' w8 ⟨rfl, h8⟩; have y8 := y6d.trans (h8.mono y6d.size); have hT2 := HT.out _ y8))
            clear hTd hT2 cQd
            go_upto_region 27 with fail
            have hTe := HT.out _ (y8.trans ((Below.refl _ w8).drew.mono y8.size))
            have y8d := y8.trans ((Below.refl _ w8).drew.mono y8.size)
            have L9 := HL.out.below y8d
            have fP := below_frozen y8d HC1.out HF1.out
            have L10 : RLk N w U D b.valid b.next (.slice (some ⟨pl, off, none⟩) zs.length cap) (w8.drew.setCell ⟨p, i * 4 + 1, none⟩ (.slice ya x.flags.length yc)) (.slice (some ⟨p, 0, none⟩) n2 vc) ov3 vs3 (G1 ++ M ++ chF b.ls 0 (us1.take i)) (.slice (some ⟨p, 0, none⟩) n2 vc) ((stF b.ls us1 i ++ A).set i (u.1, x.flags)) := by
              have h9 := L9
              rw [← HRL.out] at h9
              have := h9.flag HGU.out HSX.out HVX.out
              rw [HRL.out] at this
              exact this
            have HL10 := Lib.hid L10
            clear L9 L10
            obtain ⟨hT0, hT1, hT3, hT4⟩ := hTe
            have hA10 : (w8.drew.setCell ⟨p, i * 4 + 1, none⟩ (.slice ya x.flags.length yc)).cell? ⟨D, 2, none⟩ = some (.slice (some ⟨pl, off, none⟩) zs.length cap) ∧ (w8.drew.setCell ⟨p, i * 4 + 1, none⟩ (.slice ya x.flags.length yc)).cell? ⟨U, 0, none⟩ = some (.slice (some ⟨p, 0, none⟩) n2 vc) ∧ (w8.drew.setCell ⟨p, i * 4 + 1, none⟩ (.slice ya x.flags.length yc)).cell? ⟨pl, off + k * 4 + 1, none⟩ = some (.slice ya x.flags.length yc) := ⟨(three_cells HL10.out.hD).2.2, one_cell HL10.out.hU, HLV.out _ HL10.out.k⟩
            go_region_held3 (fun W => W.cell? ⟨D, 2, none⟩ = some (.slice (some ⟨pl, off, none⟩) zs.length cap) ∧ W.cell? ⟨U, 0, none⟩ = some (.slice (some ⟨p, 0, none⟩) n2 vc) ∧ W.cell? ⟨pl, off + k * 4 + 1, none⟩ = some (.slice ya x.flags.length yc))
              (first | exact ⟨hT0, hT1, hT3⟩ | exact hA10)
              (fail)
            obtain ⟨w10, hw10⟩ : ∃ w10, (w8.setCell ⟨p, i * 4 + 1, none⟩ (.slice ya x.flags.length yc)).drew = w10 := ⟨_, rfl⟩
            have hL10 : RLk N w U D b.valid b.next (.slice (some ⟨pl, off, none⟩) zs.length cap) (w8.setCell ⟨p, i * 4 + 1, none⟩ (.slice ya x.flags.length yc)).drew (.slice (some ⟨p, 0, none⟩) n2 vc) ov3 vs3 (G1 ++ M ++ chF b.ls 0 (us1.take i)) (.slice (some ⟨p, 0, none⟩) n2 vc) ((stF b.ls us1 i ++ A).set i (u.1, x.flags)) := HL10.out
            rw [hw10] at hL10 ⊢
            clear HL10 hw10
            have b2 := (three_cells hL10.hD).2.2
            have c1 := HLV.out w10 hL10.k
            have hstep : (stF b.ls us1 i ++ A).set i (u.1, x.flags) = stF b.ls us1 (i + 1) ++ A := by
              rw [List.set_append_left _ _ (by rw [stF_len]; exact hlt), stF_set2 HU1.out, HNOW.out]
            rw [hstep] at hL10
            have HL10 := Lib.hid hL10
            clear hL10 hstep hT0 hT1 hT3 hT4 fP hA10
            have LX := HL10.out
            go_upto_region 28 with fail
            have HA1 := Lib.hid (alloc_size w10 (.cells #[.int .i64 3, .int .i64 ((i : Int) + 1), .slice ya x.flags.length yc] 104))
            have HQQ := Lib.hid (LX.o.alloc (.cells #[.int .i64 3, .int .i64 ((i : Int) + 1), .slice ya x.flags.length yc] 104))
            have HLX := Lib.hid LX
            have h1s := LX.k.size
            clear LX
            go_wp2_with (at_builtin; go_must (refine wpList_append_lies _ rfl _ _ 81 rfl w.heap.size 104 i3 _ 3 40 Tryz.underlying81 hi3 hz30 hz31 hz32 rfl (by omega) ov3 vs3.length (cellsN vs3) rfl HQQ.out ⟨w10.heap.size, 0, none⟩ 1 1 [.int .i64 3, .int .i64 ((i : Int) + 1), .slice ya x.flags.length yc] rfl rfl (World.news_of_block (World.heap_alloc_new w10 (.cells #[.int .i64 3, .int .i64 ((i : Int) + 1), .slice ya x.flags.length yc] 104))) (by intro u hu; simp only [List.mem_cons, List.not_mem_nil, or_false] at hu; rcases hu with rfl | rfl | rfl <;> rfl) (by omega) (by unfold maxLen; omega) (by omega) (by rw [HA1.out]; omega) (w10.heap.size + 1) HA1.out ?_))
            intro p5 q5 w5 o5 g5 hp5 _

            have L11 := HLX.out.tell (x := (3, (i : Int) + 1, (ya, x.flags.length, yc))) (f := x.flags) HSX.out HVX.out o5 g5
            have HL11 := Lib.hid L11
            clear L11 o5 g5 hp5
            go_wp2_with fail
            go_roundg g'
            case measure => omega
            case rel =>
              refine ⟨i + 1, _, vs3 ++ [((3 : Int), (i : Int) + 1, ((ya, x.flags.length, yc) : Option Addr × Nat × Nat))], by omega, by go_num, rfl, ?_, by rw [List.length_append]; simp; omega⟩
              have e9 : chF b.ls 0 (us1.take (i + 1)) = chF b.ls 0 (us1.take i) ++ [⟨3, (i : Int) + 1, x.flags⟩] := by
                rw [chF_take HU1.out, HNOW.out, if_neg (fun e => HNE.out e)]
              rw [e9, ← List.append_assoc]
              exact HL11.out
      · obtain rfl : i = us1.length := by omega
        have hlk := look_ref us gone HRI.out (us1 := us1) (by
          rw [← HUS1.out]; unfold kF; rw [List.drop_zero])
        have hG1 : (if gone then goneL b.ls us us.length else []) = G1 := by rw [← HG1.out]; unfold gN; rw [Nat.sub_zero]
        have hfin : lookF b.ls us gone = (G1 ++ M ++ chF b.ls 0 (us1.take us1.length), stF b.ls us1 us1.length ++ A) := by
          rw [hlk, hG1, HLA.out, HA.out, List.take_length, stF_all, ← HM.out]
        have HFIN := Lib.hid hfin
        have HL := Lib.hid hL
        clear hL hlk hG1 hfin
        go_wp2_with fail
        go_ret
        rw [HFIN.out]
        obtain ⟨r1, r2, r3, r4, r5⟩ := rvs_of HL.out hN hNw HSP.out
        exact ⟨_, vs3, _, rfl, r1, r2, r3, r4, r5⟩
end Go.Proofs.YteclajckkjocnaaGreatDoor
