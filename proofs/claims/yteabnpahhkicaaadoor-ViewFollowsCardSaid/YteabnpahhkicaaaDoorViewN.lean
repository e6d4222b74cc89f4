/- How somebody sees a box: Look's state with its two rows of news, and what each write leaves of it. Condition: none. -/
import Derived.Test.YteabnpahhkicaaaDoorViewB
namespace Go.Proofs.YteabnpahhkicaaaDoor
open Go.RowKit Go.Shelf Go.Sort

theorem owns_n {w : World} {B : Nat} {e : TypeId} {sz : Nat} {v : Value} {n m : Nat} {xs : List Value} (h : w.ownsRow B e sz v n xs) (hn : n = m) : w.ownsRow B e sz v m xs := hn ▸ h
abbrev NV := List (Int × Int × (Option Addr × Nat × Nat))
/-- Look's state: the view; what is told (ov), what is told of flags (cv) -/
structure LookN (N : Nat) (w : World) (V Bx : Nat) (vd nx : Int) (lv uv0 fv0 : Value) (wr : World) (uv fv : Value) (ui : List Int) (fls : List (List (List UInt8))) (gs : List (Option Addr × Nat × Nat)) (ov : Value) (vs : NV) (ns : List Nw) (cv : Value) (cs : NV) (ms : List Nw) : Prop where
  s : LookS N w V Bx vd nx lv uv0 fv0 wr uv fv ui fls gs
  o : wr.ownsRow w.heap.size 45 3 ov vs.length (cellsN vs)
  r : ReadsN N wr vs ns
  c : wr.ownsRow w.heap.size 45 3 cv cs.length (cellsN cs)
  q : ReadsN N wr cs ms
  d : ∀ j, ov.ownBlock = some j → cv.ownBlock = some j → False
section
variable {N V Bx : Nat} {w wr w' : World} {vd nx : Int} {lv uv0 fv0 uv fv ov cv : Value} {ui : List Int} {fls : List (List (List UInt8))} {gs : List (Option Addr × Nat × Nat)} {vs cs : NV} {ns ms : List Nw}
theorem LookN.below (h : LookN N w V Bx vd nx lv uv0 fv0 wr uv fv ui fls gs ov vs ns cv cs ms) (hb : Below wr.heap.size wr w') : LookN N w V Bx vd nx lv uv0 fv0 w' uv fv ui fls gs ov vs ns cv cs ms :=
  ⟨h.s.below hb, owns_below h.o hb, h.r.below hb, owns_below h.c hb, h.q.below hb, h.d⟩
theorem LookN.setU (h : LookN N w V Bx vd nx lv uv0 fv0 wr uv fv ui fls gs ov vs ns cv cs ms) (hN : N ≤ V) (hNw : N ≤ w.heap.size) {uv' : Value} {ui' : List Int} (ho : wr.ownsRow w.heap.size 3 1 uv' ui'.length (ui'.map (Value.int .i64))) : LookN N w V Bx vd nx lv uv0 fv0 (wr.setCell ⟨V, 0, none⟩ uv') uv' fv ui' fls gs ov vs ns cv cs ms := by
  have hk : Kept (fun j => j = V) wr (wr.setCell ⟨V, 0, none⟩ uv') := Kept.setB (Kept.refl _ wr) _
  have hs := spares_at h.s.hV hN (by decide) (by decide)
  exact ⟨h.s.setU hN ho hNw, owns_setAny h.o h.s.hV (by decide), h.r.kept hk hs, owns_setAny h.c h.s.hV (by decide), h.q.kept hk hs, h.d⟩
theorem LookN.setF (h : LookN N w V Bx vd nx lv uv0 fv0 wr uv fv ui fls gs ov vs ns cv cs ms) (hN : N ≤ V) (hNw : N ≤ w.heap.size) {fv' : Value} {fls' : List (List (List UInt8))} {gs' : List (Option Addr × Nat × Nat)} (ho : wr.ownsRow w.heap.size 34 1 fv' gs'.length (gs'.map encSl)) (hl : gs'.length = fls'.length) (hr : Reads N wr gs' fls') : LookN N w V Bx vd nx lv uv0 fv0 (wr.setCell ⟨V, 1, none⟩ fv') uv fv' ui fls' gs' ov vs ns cv cs ms := by
  have hk : Kept (fun j => j = V) wr (wr.setCell ⟨V, 1, none⟩ fv') := Kept.setB (Kept.refl _ wr) _
  have hs := spares_at h.s.hV hN (by decide) (by decide)
  exact ⟨h.s.setF hN ho hl hr hNw, owns_setAny h.o h.s.hV (by decide), h.r.kept hk hs, owns_setAny h.c h.s.hV (by decide), h.q.kept hk hs, h.d⟩
theorem news_cells (vs : NV) (x : Int × Int × (Option Addr × Nat × Nat)) : cellsN vs ++ [.int .i64 x.1, .int .i64 x.2.1, encSl x.2.2] = cellsN (vs ++ [x]) := by
  rw [cellsN_app]
  simp [cellsN]
/-- an append to what is told -/
theorem LookN.tellO (h : LookN N w V Bx vd nx lv uv0 fv0 wr uv fv ui fls gs ov vs ns cv cs ms) (hNw : N ≤ w.heap.size) {ob : Obj} {p q : Nat} {x : Int × Int × (Option Addr × Nat × Nat)} {f : List (List UInt8)} (hx1 : SRow wr (encSl x.2.2) f) (hx2 : SafeV N wr (encSl x.2.2))
    (ho : w'.ownsRow w.heap.size 45 3 (.slice (some ⟨p, 0, none⟩) (vs.length + 1) q) (vs.length + 1) (cellsN vs ++ [.int .i64 x.1, .int .i64 x.2.1, encSl x.2.2])) (hg : (wr.alloc ob).grownBy w' ov.ownBlock) (hp : ov.ownBlock = some p ∨ p = wr.heap.size + 1) :
    LookN N w V Bx vd nx lv uv0 fv0 w' uv fv ui fls gs (.slice (some ⟨p, 0, none⟩) (vs.length + 1) q) (vs ++ [x]) (ns ++ [⟨x.1, x.2.1, f⟩]) cv cs ms := by
  have hk : Kept (fun j => ov.ownBlock = some j) wr w' := ((Kept.refl _ wr).alloc _).trans (kept_grown hg)
  have hs : Spares N wr (fun j => ov.ownBlock = some j) := spares_own h.o hNw (by decide) (by decide)
  refine ⟨h.s.news hNw h.o hg, ?_, (h.r.kept hk hs).app (ReadsN.one (hx1.kept hx2 hk hs) (hx2.kept hk hs)), ?_, h.q.kept hk hs, fun j e1 e2 => ?_⟩
  · rw [news_cells] at ho
    exact owns_n ho (by simp)
  · refine (h.c.alloc ob).kept hg ?_
    cases hc : cv.ownBlock with
    | none => exact Or.inl rfl
    | some j => exact Or.inr (fun e => h.d j e.symm hc)
  · obtain rfl : p = j := by simpa [Value.ownBlock] using e1
    rcases hp with e | e
    · exact h.d _ e e2
    · have := (h.c.lt _ e2).2
      omega
theorem LookN.tellC (h : LookN N w V Bx vd nx lv uv0 fv0 wr uv fv ui fls gs ov vs ns cv cs ms) (hNw : N ≤ w.heap.size) {ob : Obj} {p q : Nat} {x : Int × Int × (Option Addr × Nat × Nat)} {f : List (List UInt8)} (hx1 : SRow wr (encSl x.2.2) f) (hx2 : SafeV N wr (encSl x.2.2))
    (ho : w'.ownsRow w.heap.size 45 3 (.slice (some ⟨p, 0, none⟩) (cs.length + 1) q) (cs.length + 1) (cellsN cs ++ [.int .i64 x.1, .int .i64 x.2.1, encSl x.2.2])) (hg : (wr.alloc ob).grownBy w' cv.ownBlock) (hp : cv.ownBlock = some p ∨ p = wr.heap.size + 1) :
    LookN N w V Bx vd nx lv uv0 fv0 w' uv fv ui fls gs ov vs ns (.slice (some ⟨p, 0, none⟩) (cs.length + 1) q) (cs ++ [x]) (ms ++ [⟨x.1, x.2.1, f⟩]) := by
  have hk : Kept (fun j => cv.ownBlock = some j) wr w' := ((Kept.refl _ wr).alloc _).trans (kept_grown hg)
  have hs : Spares N wr (fun j => cv.ownBlock = some j) := spares_own h.c hNw (by decide) (by decide)
  refine ⟨h.s.news hNw h.c hg, ?_, h.r.kept hk hs, ?_, (h.q.kept hk hs).app (ReadsN.one (hx1.kept hx2 hk hs) (hx2.kept hk hs)), fun j e1 e2 => ?_⟩
  · refine (h.o.alloc ob).kept hg ?_
    cases hc : ov.ownBlock with
    | none => exact Or.inl rfl
    | some j => exact Or.inr (fun e => h.d j hc e.symm)
  · rw [news_cells] at ho
    exact owns_n ho (by simp)
  · obtain rfl : p = j := by simpa [Value.ownBlock] using e2
    rcases hp with e | e
    · exact h.d _ e1 e
    · have := (h.o.lt _ e1).2
      omega
/-- flags told anew, in place -/
theorem LookN.flag {pf qf k : Nat} {g : Option Addr × Nat × Nat} {f : List (List UInt8)} (h : LookN N w V Bx vd nx lv uv0 fv0 wr uv (.slice (some ⟨pf, 0, none⟩) gs.length qf) ui fls gs ov vs ns cv cs ms) (hk : k < gs.length) (h1 : SRow wr (encSl g) f) (h2 : SafeV N wr (encSl g)) :
    LookN N w V Bx vd nx lv uv0 fv0 (wr.setCell ⟨pf, k, none⟩ (encSl g)) uv (.slice (some ⟨pf, 0, none⟩) gs.length qf) ui (fls.set k f) (gs.set k g) ov vs ns cv cs ms := by
  obtain ⟨cur, hh⟩ : ∃ cur, wr.heap[pf]? = some (.cells cur 34 (0, 0)) := by
    rcases h.s.hf.2 with ⟨e, _⟩ | ⟨g, c, cur, e, _, hh, _⟩
    · cases e
    · cases e; exact ⟨cur, hh⟩
  have hkp : Kept (fun j => j = pf) wr (wr.setCell ⟨pf, k, none⟩ (encSl g)) := Kept.setB (Kept.refl _ wr) _
  have hNp : N ≤ pf := (h.s.hf.lt pf rfl).1
  have hs : Spares N wr (fun j => j = pf) := spares_at hh hNp (by decide) (by decide)
  have hVp : V ≠ pf := ne_of_obj h.s.hV hh (by intro e; cases e)
  have hBp : Bx ≠ pf := ne_of_obj h.s.hB hh (by intro e; cases e)
  have hst := (h.s.hf.stored k (encSl g)).1
  rw [← List.map_set] at hst
  refine ⟨⟨setCell_same h.s.hV hVp, setCell_same h.s.hB hBp, owns_setAny h.s.hu hh (by decide), ?_, by rw [List.length_set, List.length_set]; exact h.s.hl, ?_, ?_, h.s.ou, h.s.of⟩, owns_setAny h.o hh (by decide), h.r.kept hkp hs, owns_setAny h.c hh (by decide), h.q.kept hkp hs, h.d⟩
  · rw [List.length_set]; exact hst
  · intro i f' hf'
    rw [List.getElem?_set] at hf' ⊢
    split at hf'
    · rename_i hik
      subst hik
      rw [if_pos rfl, if_pos hk]
      rw [if_pos (by rw [← h.s.hl]; exact hk)] at hf'
      cases hf'
      exact ⟨g, rfl, h1.kept h2 hkp hs, h2.kept hkp hs⟩
    · rename_i hik
      rw [if_neg hik]
      exact (h.s.hr.kept hkp hs) i f' hf'
  · refine h.s.hk.set (fun hlt => ?_) _
    have e : (Value.slice (some ⟨pf, 0, none⟩) gs.length qf).ownBlock = some pf := rfl
    rcases h.s.of with e2 | e2
    · exact Or.inr (Or.inr (e2 ▸ e))
    · have h3 := e2 pf e
      have h4 : pf < w.heap.size := hlt
      omega
/-- both rows written anew, or grown in place -/
theorem LookN.grow (h : LookN N w V Bx vd nx lv uv0 fv0 wr uv fv ui fls gs ov vs ns cv cs ms) (hN : N ≤ V) (hNw : N ≤ w.heap.size) {uv' fv' : Value} {ui' : List Int} {fls' : List (List (List UInt8))} {gs' : List (Option Addr × Nat × Nat)} (hk : Kept (fun j => j = V ∨ uv.ownBlock = some j ∨ fv.ownBlock = some j) wr w')
    (hV' : w'.heap[V]? = some (.cells #[uv', fv'] 60 (0, 0))) (hu' : w'.ownsRow N 3 1 uv' ui'.length (ui'.map (Value.int .i64))) (hf' : w'.ownsRow N 34 1 fv' gs'.length (gs'.map encSl)) (hl' : gs'.length = fls'.length) (hr' : Reads N w' gs' fls')
    (hpu : uv'.ownBlock = uv.ownBlock ∨ ∀ j, uv'.ownBlock = some j → wr.heap.size ≤ j) (hpf : fv'.ownBlock = fv.ownBlock ∨ ∀ j, fv'.ownBlock = some j → wr.heap.size ≤ j) : LookN N w V Bx vd nx lv uv0 fv0 w' uv' fv' ui' fls' gs' ov vs ns cv cs ms := by
  have hsp : Spares N wr (fun j => j = V ∨ uv.ownBlock = some j ∨ fv.ownBlock = some j) := spares_view h.s.hV hN h.s.hu h.s.hf
  have hout : ∀ {j : Nat} {c : Array Value} {T : TypeId} {fz : Nat × Nat}, wr.heap[j]? = some (.cells c T fz) → T ≠ 60 → T ≠ 3 → T ≠ 34 → ¬ (j = V ∨ uv.ownBlock = some j ∨ fv.ownBlock = some j) := by
    intro j c T fz hj t1 t2 t3
    rintro (e | e | e)
    · subst e
      have := h.s.hV
      rw [hj] at this
      cases this
      exact t1 rfl
    · rcases h.s.hu.2 with ⟨e0, _⟩ | ⟨g, c', cur, e0, _, hh, _⟩
      · rw [e0] at e; cases e
      · rw [e0] at e; cases e
        rw [hj] at hh; cases hh; exact t2 rfl
    · rcases h.s.hf.2 with ⟨e0, _⟩ | ⟨g, c', cur, e0, _, hh, _⟩
      · rw [e0] at e; cases e
      · rw [e0] at e; cases e
        rw [hj] at hh; cases hh; exact t3 rfl
  have hnews : ∀ {v : Value} {n : Nat} {xs : List Value}, wr.ownsRow w.heap.size 45 3 v n xs → w'.ownsRow w.heap.size 45 3 v n xs := fun hv => owns_same hv (fun j o hj ho => by
    obtain ⟨c, fz, rfl⟩ := ho
    exact hk.obj hj (hout hj (by decide) (by decide) (by decide)))
  have hws := h.s.hk.size
  refine ⟨⟨hV', hk.obj h.s.hB (hout h.s.hB (by decide) (by decide) (by decide)), hu', hf', hl', hr', ?_, ?_, ?_⟩, hnews h.o, h.r.kept hk hsp, hnews h.c, h.q.kept hk hsp, h.d⟩
  · refine ⟨hk.os.trans h.s.hk.os, hk.tape.trans h.s.hk.tape, hk.output.trans h.s.hk.output, Nat.le_trans hws hk.size, fun j hj hs => (hk.block j (Nat.lt_of_lt_of_le hj hws) ?_).trans (h.s.hk.block j hj hs)⟩
    rintro (e | e | e)
    · exact hs (Or.inl e)
    · rcases h.s.ou with e2 | e2
      · exact hs (Or.inr (Or.inl (e2 ▸ e)))
      · have := e2 j e; omega
    · rcases h.s.of with e2 | e2
      · exact hs (Or.inr (Or.inr (e2 ▸ e)))
      · have := e2 j e; omega
  · rcases hpu with e | e
    · rw [e]; exact h.s.ou
    · exact Or.inr (fun j hj => Nat.le_trans hws (e j hj))
  · rcases hpf with e | e
    · rw [e]; exact h.s.of
    · exact Or.inr (fun j hj => Nat.le_trans hws (e j hj))
/-- what is told, and what is told of flags, in one row -/
theorem LookN.fin {T : Us} (h : LookN N w V Bx vd nx lv uv0 fv0 wr uv fv (T.map (·.1)) (T.map (·.2)) gs ov vs ns cv cs ms) (hNw : N ≤ w.heap.size) {v' : Value} (hg : wr.grownBy w' ov.ownBlock) (ho : w'.ownsRow w.heap.size 45 3 v' (vs.length + cs.length) (cellsN vs ++ cellsN cs)) :
    w'.ownsRow w.heap.size 45 3 v' (vs ++ cs).length (cellsN (vs ++ cs)) ∧ ReadsN N w' (vs ++ cs) (ns ++ ms) ∧ ViewS N w' V uv fv T ∧ Kept (fun j => j = V ∨ uv0.ownBlock = some j ∨ fv0.ownBlock = some j) w w' ∧
      (uv.ownBlock = uv0.ownBlock ∨ ∀ j, uv.ownBlock = some j → w.heap.size ≤ j) ∧ (fv.ownBlock = fv0.ownBlock ∨ ∀ j, fv.ownBlock = some j → w.heap.size ≤ j) := by
  have hk : Kept (fun j => ov.ownBlock = some j) wr w' := kept_grown hg
  have hs : Spares N wr (fun j => ov.ownBlock = some j) := spares_own h.o hNw (by decide) (by decide)
  have hout : ∀ {j : Nat} {c : Array Value} {T : TypeId} {fz : Nat × Nat}, wr.heap[j]? = some (.cells c T fz) → T ≠ 45 → ¬ (ov.ownBlock = some j) := by
    intro j c T fz hj t e
    rcases h.o.2 with ⟨e0, _⟩ | ⟨g, c', cur, e0, _, hh, _⟩
    · rw [e0] at e; cases e
    · rw [e0] at e; cases e
      rw [hj] at hh; cases hh; exact t rfl
  have hrow : ∀ {B : Nat} {e : TypeId} {v : Value} {n : Nat} {xs : List Value}, wr.ownsRow B e 1 v n xs → e ≠ 45 → w'.ownsRow B e 1 v n xs := fun hv he => owns_same hv (fun j o hj ho => by
    obtain ⟨c, fz, rfl⟩ := ho
    exact hk.obj hj (hout hj he))
  refine ⟨?_, (h.r.kept hk hs).app (h.q.kept hk hs), ⟨gs, hk.obj h.s.hV (hout h.s.hV (by decide)), ?_, ?_, h.s.hr.kept hk hs⟩, ?_, h.s.ou, h.s.of⟩
  · rw [cellsN_app]
    exact owns_n ho (List.length_append ..).symm
  · have := hrow h.s.hu (by decide)
    exact owns_n this (List.length_map ..)
  · have := hrow h.s.hf (by decide)
    exact owns_n this (by rw [h.s.hl, List.length_map])
  · refine ⟨hk.os.trans h.s.hk.os, hk.tape.trans h.s.hk.tape, hk.output.trans h.s.hk.output, Nat.le_trans h.s.hk.size hk.size, fun j hj hsj => (hk.block j (Nat.lt_of_lt_of_le hj h.s.hk.size) (fun e => ?_)).trans (h.s.hk.block j hj hsj)⟩
    have := (h.o.lt j e).1
    omega
end
theorem own_fresh {v : Value} {p H X n c : Nat} (hp : v.ownBlock = some p ∨ p = H) (h : X ≤ H) : (Value.slice (some ⟨p, 0, none⟩) n c).ownBlock = v.ownBlock ∨ ∀ j, (Value.slice (some ⟨p, 0, none⟩) n c).ownBlock = some j → X ≤ j := by
  rcases hp with e | e
  · exact Or.inl (by rw [e]; rfl)
  · refine Or.inr (fun j hj => ?_)
    have : p = j := by simpa [Value.ownBlock] using hj
    omega
theorem own_some {w : World} {B : Nat} {e : TypeId} {sz : Nat} {v : Value} {n : Nat} {xs : List Value} (h : w.ownsRow B e sz v n xs) (hn : 0 < n) : ∃ p q, v = .slice (some ⟨p, 0, none⟩) n q := by
  rcases h.2 with ⟨_, h0⟩ | ⟨g, cap, cur, e, _⟩
  · omega
  · exact ⟨g, cap, e⟩
end Go.Proofs.YteabnpahhkicaaaDoor
