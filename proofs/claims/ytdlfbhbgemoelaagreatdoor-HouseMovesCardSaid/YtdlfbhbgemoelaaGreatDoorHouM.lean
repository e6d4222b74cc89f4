/- The maps of a house at the walk's operations: of boxes (pointers), of names that are wanted. No condition beyond those each names. -/
import Derived.Test.YtdlfbhbgemoelaaGreatDoorRows
import Derived.Test.YtdlfbhbgemoelaaGreatDoorKept
import Derived.Test.YtdlfbhbgemoelaaGreatDoorPHouse6
import Derived.Maps.OwnOps
import Derived.Maps.OwnSet
namespace Go.Proofs.YtdlfbhbgemoelaaGreatDoor
open Go.RowKit Go.Shelf Go.Sort Go.Maps

theorem lawS : Keyed Tryz.prog 9 := string_keyed Tryz.underlying9
theorem zero_ptr (w : World) : (zeroValue 35).run Tryz.prog w = .ok (.pointer none) w := by kernel_rfl
theorem zero_yes (w : World) : (zeroValue 4).run Tryz.prog w = .ok (.bool false) w := by kernel_rfl
theorem key_ofS {s : Bs} (h : s.length ≤ 1000000) : keyOf Tryz.prog 9 (.string ⟨s.toArray⟩) = some (.string s) := by
  have := WideMaps.keyOf_string_mk (P := Tryz.prog) Tryz.underlying9 (s := ⟨s.toArray⟩) (by rw [text_size]; unfold maxLen; omega)
  simpa using this
def boxD (b : Nat) : DataW Unit := .lit (.int .u64 (b : Int))
/-- how a pointer to a box reads -/
def ptrR : Value → Option (DataW Unit × List MemPlace)
  | .pointer none => some (.nil, [])
  | .pointer (some ⟨b, 0, none⟩) => some (boxD b, [])
  | _ => none
theorem ptrR_nil {v : Value} {ps : List MemPlace} (h : ptrR v = some (.nil, ps)) : v = .pointer none := by
  unfold ptrR at h
  split at h
  · rfl
  · unfold boxD at h; simp at h
  · cases h
theorem ptrR_some {v : Value} {b : Nat} {ps : List MemPlace} (h : ptrR v = some (boxD b, ps)) : v = .pointer (some ⟨b, 0, none⟩) := by
  unfold ptrR at h
  split at h
  · unfold boxD at h; simp at h
  · rename_i b'
    unfold boxD at h
    simp at h
    obtain rfl : b' = b := by omega
    rfl
  · cases h
/-- a map of boxes by their names -/
def PM (w : World) (M : Nat) (L : List Bs) (f : Bs → Nat) : Prop := ∃ D, w.ownsMap Tryz.prog 9 ptrR M L.length D ∧ MK .nil D L (fun x => boxD (f x))
/-- a map of names that are wanted -/
def WM (w : World) (M : Nat) (L : List Bs) : Prop := ∃ D, w.ownsMap Tryz.prog 9 (plainElem Tryz.prog 4) M L.length D ∧ MK (.lit (.bool false)) D L (fun _ => .lit (.bool true))
theorem owns_tight {w : World} {k : TypeId} {R : Value → Option (DataW Unit × List MemPlace)} {b n m : Nat} {D : DataW Unit} (h : w.ownsMap Tryz.prog k R b n D) (hm : Maps.size D = m) : w.ownsMap Tryz.prog k R b m D := by
  obtain ⟨es, clock, hb, F, _, hD⟩ := h
  refine ⟨es, clock, hb, F, ?_, hD⟩
  subst hD
  have : Maps.size (DataW.map ((es.toList.map (WideElems.rg Tryz.prog k R)).foldr DataW.insert [])) = es.size := by simp [Maps.size, length_sorted]
  omega
theorem own_obj {w : World} {k : TypeId} {R : Value → Option (DataW Unit × List MemPlace)} {b n : Nat} {D : DataW Unit} (h : w.ownsMap Tryz.prog k R b n D) : ∃ es c, w.heap[b]? = some (.map es c) := by
  obtain ⟨es, c, hb, _⟩ := h
  exact ⟨es, c, hb⟩
theorem own_kept {w w' : World} {k : TypeId} {R : Value → Option (DataW Unit × List MemPlace)} {b n : Nat} {D : DataW Unit} {S : Nat → Prop} (h : w.ownsMap Tryz.prog k R b n D) (hk : Kept S w w') (hM : ¬ S b) : w'.ownsMap Tryz.prog k R b n D := by
  obtain ⟨es, c, hb, r⟩ := h
  exact ⟨es, c, hk.obj hb hM, r⟩
section
variable {w w' : World} {M : Nat} {L : List Bs} {f : Bs → Nat} {S : Nat → Prop}
theorem PM.kept (h : PM w M L f) (hk : Kept S w w') (hM : ¬ S M) : PM w' M L f := let ⟨D, h1, h2⟩ := h; ⟨D, own_kept h1 hk hM, h2⟩
theorem WM.kept (h : WM w M L) (hk : Kept S w w') (hM : ¬ S M) : WM w' M L := let ⟨D, h1, h2⟩ := h; ⟨D, own_kept h1 hk hM, h2⟩
theorem PM.below (h : PM w M L f) (hk : Below w.heap.size w w') : PM w' M L f := h.kept (S := fun _ => False) (kept_below hk) id
theorem WM.below (h : WM w M L) (hk : Below w.heap.size w w') : WM w' M L := h.kept (S := fun _ => False) (kept_below hk) id
theorem PM.obj (h : PM w M L f) : ∃ es c, w.heap[M]? = some (.map es c) := let ⟨_, h1, _⟩ := h; own_obj h1
theorem WM.obj (h : WM w M L) : ∃ es c, w.heap[M]? = some (.map es c) := let ⟨_, h1, _⟩ := h; own_obj h1
theorem PM.sorts (h : PM w M L f) : Sorts L := let ⟨_, _, h2⟩ := h; h2.sorts
theorem WM.sorts (h : WM w M L) : Sorts L := let ⟨_, _, h2⟩ := h; h2.sorts
theorem PM.congr {g : Bs → Nat} (h : PM w M L f) (e : ∀ x, x ∈ L → g x = f x) : PM w M L g := let ⟨D, h1, h2⟩ := h; ⟨D, h1, h2.congr fun x hx => by rw [e x hx]⟩
theorem pm_made (w : World) (f : Bs → Nat) : PM (w.alloc (.map #[] 0)) w.heap.size [] f := ⟨_, World.ownsMap_made w _ _ _, MK.empty _ _⟩
theorem wm_made (w : World) : WM (w.alloc (.map #[] 0)) w.heap.size [] := ⟨_, World.ownsMap_made w _ _ _, MK.empty _ _⟩
end
theorem pm_look_yes {w : World} {M : Nat} {L : List Bs} {f : Bs → Nat} (h : PM w M L f) {s : Bs} (hl : s.length ≤ 1000000) (hs : s ∈ L) : (Instr.lookup 58 (.map (some M)) (.string ⟨s.toArray⟩) false).run Tryz.prog w = .ok (.pointer (some ⟨f s, 0, none⟩)) w := by
  obtain ⟨D, h1, h2⟩ := h
  obtain ⟨v, ps, hrun, hv⟩ := h1.lookup lawS (t := 58) Tryz.underlying58 (zero_ptr w) (zd := .nil) (zp := []) rfl (key_ofS hl)
  rw [h2.at_, if_pos hs] at hv
  obtain rfl := ptrR_some hv
  exact hrun
theorem pm_look_no {w : World} {M : Nat} {L : List Bs} {f : Bs → Nat} (h : PM w M L f) {s : Bs} (hl : s.length ≤ 1000000) (hs : s ∉ L) : (Instr.lookup 58 (.map (some M)) (.string ⟨s.toArray⟩) false).run Tryz.prog w = .ok (.pointer none) w := by
  obtain ⟨D, h1, h2⟩ := h
  obtain ⟨v, ps, hrun, hv⟩ := h1.lookup lawS (t := 58) Tryz.underlying58 (zero_ptr w) (zd := .nil) (zp := []) rfl (key_ofS hl)
  rw [h2.at_, if_neg hs] at hv
  obtain rfl := ptrR_nil hv
  exact hrun
theorem pm_store_run {w : World} {M : Nat} {L : List Bs} {f : Bs → Nat} (h : PM w M L f) {s : Bs} (hl : s.length ≤ 1000000) (B : Nat) (hn : L.length ≤ 1000000) :
    ∃ w', (Instr.mapUpdate 58 (.map (some M)) (.string ⟨s.toArray⟩) (.pointer (some ⟨B, 0, none⟩))).run Tryz.prog w = .ok () w' ∧ PM w' M (insS s L) (fun x => if x = s then B else f x) ∧ Kept (fun k => k = M) w w' := by
  have hmx : L.length < maxLen := by unfold maxLen; omega
  obtain ⟨D, h1, h2⟩ := h
  have hR : ptrR (.pointer (some ⟨B, 0, none⟩)) = some (boxD B, []) := rfl
  obtain ⟨w', hrun, hown, hgr⟩ := h1.update lawS (t := 58) Tryz.underlying58 hmx (key_ofS hl) hR
  have h3 := (h2.put s (boxD B)).congr (e' := fun x => boxD (if x = s then B else f x)) (fun x _ => by unfold updE; split <;> rfl)
  exact ⟨w', hrun, ⟨_, owns_tight hown (h3.size hown Tryz.underlying9), h3⟩, Kept.mono (T := fun k => k = M) (kept_grown hgr) (fun k _ e => (Option.some.inj e).symm)⟩
section
variable (w : World) {ops : Array Oper} {rest : List Oper} {o : Oper} {a : Act} {Q : Exit → Act → World → Prop}
theorem wpList_look_yes (hg : o.guard = none) (m x : Operand) (hop : o.op = Op.lookup 58 m x false) (M : Nat) (L : List Bs) (f : Bs → Nat) (hm : a.eval m = .map (some M)) (h : PM w M L f)
    (s : Bs) (hx : a.eval x = .string ⟨s.toArray⟩) (hl : s.length ≤ 1000000) (hs : s ∈ L) (hK : wpList Tryz.prog ops Q rest (a.put o.dst (.pointer (some ⟨f s, 0, none⟩))) w) : wpList Tryz.prog ops Q (o :: rest) a w := by
  obtain ⟨D, h1, h2⟩ := h
  refine wpList_plain hg fun K' hK' => ?_
  obtain ⟨v, ps, hrun, hv⟩ := h1.lookup lawS (t := 58) Tryz.underlying58 (zero_ptr w) (zd := .nil) (zp := []) rfl (key_ofS hl)
  rw [h2.at_, if_pos hs] at hv
  obtain rfl := ptrR_some hv
  unfold Oper.wp
  simp [execOp, hop, hm, hx, hrun, Result.andThen]
  exact hK' _ _ hK
theorem wpList_look_no (hg : o.guard = none) (m x : Operand) (hop : o.op = Op.lookup 58 m x false) (M : Nat) (L : List Bs) (f : Bs → Nat) (hm : a.eval m = .map (some M)) (h : PM w M L f)
    (s : Bs) (hx : a.eval x = .string ⟨s.toArray⟩) (hl : s.length ≤ 1000000) (hs : s ∉ L) (hK : wpList Tryz.prog ops Q rest (a.put o.dst (.pointer none)) w) : wpList Tryz.prog ops Q (o :: rest) a w := by
  obtain ⟨D, h1, h2⟩ := h
  refine wpList_plain hg fun K' hK' => ?_
  obtain ⟨v, ps, hrun, hv⟩ := h1.lookup lawS (t := 58) Tryz.underlying58 (zero_ptr w) (zd := .nil) (zp := []) rfl (key_ofS hl)
  rw [h2.at_, if_neg hs] at hv
  obtain rfl := ptrR_nil hv
  unfold Oper.wp
  simp [execOp, hop, hm, hx, hrun, Result.andThen]
  exact hK' _ _ hK
theorem wpList_store_pm (hg : o.guard = none) (m x v : Operand) (hop : o.op = Op.mapUpdate 58 m x v) (M : Nat) (L : List Bs) (f : Bs → Nat) (hm : a.eval m = .map (some M)) (h : PM w M L f)
    (s : Bs) (hx : a.eval x = .string ⟨s.toArray⟩) (hl : s.length ≤ 1000000) (B : Nat) (hv : a.eval v = .pointer (some ⟨B, 0, none⟩)) (hn : L.length ≤ 1000000)
    (hK : ∀ w', PM w' M (insS s L) (fun x => if x = s then B else f x) → Kept (fun k => k = M) w w' → wpList Tryz.prog ops Q rest (a.put o.dst undef) w') : wpList Tryz.prog ops Q (o :: rest) a w := by
  obtain ⟨D, h1, h2⟩ := h
  refine wpList_mapUpdate_own w hg m x v 58 hop 9 35 lawS Tryz.underlying58 ptrR M L.length D hm h1 (by unfold maxLen; omega) _ _ (.string s) hx hv (key_ofS hl) (boxD B) [] rfl ?_
  intro w' hown hgr
  have h3 := (h2.put s (boxD B)).congr (e' := fun x => boxD (if x = s then B else f x)) (fun x _ => by unfold updE; split <;> rfl)
  refine hK w' ⟨_, owns_tight hown (h3.size hown Tryz.underlying9), h3⟩ ((kept_grown hgr).mono fun k _ e => by injection e with e; exact e.symm)
theorem wpList_delete_pm (hg : o.guard = none) (m x : Operand) (hop : o.op = Op.call { callee := Callee.builtin Builtin.delete, args := #[m, x], argTypes := #[58, 9] }) (M : Nat) (L : List Bs) (f : Bs → Nat) (hm : a.eval m = .map (some M)) (h : PM w M L f)
    (s : Bs) (hx : a.eval x = .string ⟨s.toArray⟩) (hl : s.length ≤ 1000000)
    (hK : ∀ w', PM w' M (delS s L) f → Kept (fun k => k = M) w w' → wpList Tryz.prog ops Q rest (a.put o.dst (.tuple #[])) w') : wpList Tryz.prog ops Q (o :: rest) a w := by
  obtain ⟨D, h1, h2⟩ := h
  refine wpList_delete_own w hg m x 58 9 hop 35 lawS Tryz.underlying58 ptrR M L.length D hm h1 _ (.string s) hx (key_ofS hl) ?_
  intro w' hown hgr
  have h3 := h2.del s
  refine hK w' ⟨_, owns_tight hown (h3.size hown Tryz.underlying9), h3⟩ ((kept_grown hgr.grown).mono fun k _ e => by injection e with e; exact e.symm)
theorem wpList_len_pm (hg : o.guard = none) (m : Operand) (hop : o.op = Op.call { callee := Callee.builtin Builtin.len, args := #[m], argTypes := #[58] }) (M : Nat) (L : List Bs) (f : Bs → Nat) (hm : a.eval m = .map (some M)) (h : PM w M L f)
    (hK : wpList Tryz.prog ops Q rest (a.put o.dst (.int .i64 (L.length : Int))) w) : wpList Tryz.prog ops Q (o :: rest) a w := by
  obtain ⟨D, h1, h2⟩ := h
  refine wpList_len_own w hg m 58 hop 9 35 Tryz.underlying58 ptrR M L.length D hm h1 ?_
  rw [h2.size h1 Tryz.underlying9]
  exact hK
end
end Go.Proofs.YtdlfbhbgemoelaaGreatDoor
