/- The walk over the law's parted: it holds. Condition: bytealg.MaxLen lies. -/
import Derived.Test.YtmjfhhladicacaaDoorMimeG
namespace Go.Proofs.YtmjfhhladicacaaDoor
open Go.RowKit Go.Shelf

def ptT : List UInt8 := [67, 111, 110, 116, 101, 110, 116, 45, 84, 121, 112, 101, 58, 32, 109, 117, 108, 116, 105, 112, 97, 114, 116, 47, 109, 105, 120, 101, 100, 59, 32, 98, 111, 117, 110, 100, 97, 114, 121, 61, 98, 13, 10, 13, 10, 45, 45, 98, 13, 10, 13, 10, 111, 110, 101, 13, 10, 45, 45, 98, 13, 10, 13, 10, 116, 119, 111, 13, 10, 45, 45, 98, 45, 45, 13, 10]
def ptC : Bool := match (partF ptT 7 0 0 ptT.length).1 with
  | some (.mk t _ _ _ _ [.mk t1 _ f1 o1 n1 [], .mk t2 _ f2 o2 n2 []]) => t == [109, 117, 108, 116, 105, 112, 97, 114, 116, 47, 109, 105, 120, 101, 100] && t1 == tpS && t2 == tpS && n1 == 0 && n2 == 0 && o1 == f1 + 3 && o2 == f2 + 3
  | _ => false
theorem ptC_ok : ptC = true := by decide +kernel
def ptW : List UInt8 := [40, 40, 34, 116, 101, 120, 116, 47, 112, 108, 97, 105, 110, 34, 32, 48, 32, 51, 41, 32, 40, 34, 116, 101, 120, 116, 47, 112, 108, 97, 105, 110, 34, 32, 48, 32, 51, 41, 32, 34, 109, 117, 108, 116, 105, 112, 97, 114, 116, 47, 109, 105, 120, 101, 100, 34, 41]
theorem pt_law : ∃ p, (partF ptT 7 0 0 ptT.length).1 = some p ∧ p.ps.length = 2 ∧ tellF 7 p = ptW := by
  have h := ptC_ok
  unfold ptC at h
  generalize (partF ptT 7 0 0 ptT.length).1 = r at h
  split at h
  · rename_i t b f o n t1 b1 f1 o1 n1 t2 b2 f2 o2 n2
    simp only [Bool.and_eq_true, beq_iff_eq] at h
    obtain ⟨⟨⟨⟨⟨⟨rfl, rfl⟩, rfl⟩, rfl⟩, rfl⟩, rfl⟩, rfl⟩ := h
    refine ⟨_, rfl, rfl, ?_⟩
    have e3 : ∀ f : Nat, f + 3 - f = 3 := fun f => by omega
    rw [tell_node (g := 6) (by show (2 : Nat) ≠ 0; decide)]
    show [40] ++ kidsF 6 [_, _] ++ [34] ++ _ ++ [34, 41] = ptW
    unfold kidsF
    rw [List.flatMap_cons, List.flatMap_cons, tell_leaf (g := 5) rfl, tell_leaf (g := 5) rfl]
    simp only [PT.ty, PT.ln, PT.to, PT.fr, e3]
    rw [num_low (n := 0) (by decide), num_low (n := 3) (by decide)]
    rfl
  · cases h

theorem pt_fine {p : PT} (h : (partF ptT 7 0 0 ptT.length).1 = some p) : Fine 7 p := by
  refine part_fine ptT (by decide) 7 0 0 ptT.length p (partF ptT 7 0 0 ptT.length).2 (Nat.zero_le _) (Nat.le_refl _) (by decide) ?_
  rw [← h]
theorem part_some {r : Option PT} {p : PT} {v : Value} {lo : Nat} {W : World} (h : r = some p) (hr : PartRes r v lo W) : ∃ aq cq, v = .tuple #[aggP p aq cq, .nilIface] ∧ Reads W (fun j => lo ≤ j) (.slice aq p.ps.length cq) p.ps := by
  subst h
  obtain ⟨pv, h1, h2⟩ := hr
  obtain ⟨aq, cq, rfl⟩ := reads_slice h2
  exact ⟨aq, cq, h1, h2⟩

set_option maxRecDepth 100000 in
set_option maxHeartbeats 4000000 in
theorem parted_any (w : World) (hM : MaxL w) :
    Calls Tryd.prog 15 #[] w fun e w' => e = .returned (.bool true) ∧ Below w.heap.size w w' := by
  obtain ⟨p, h1, h2, h3⟩ := pt_law
  have hF := pt_fine h1
  have cP : Calls Tryd.prog 16 #[.string ⟨ptT.toArray⟩] w fun e w' => ∃ aq cq, e = .returned (.tuple #[.agg #[.string ⟨p.ty.toArray⟩, .string ⟨p.bd.toArray⟩, .int .i64 (p.fr : Int), .int .i64 (p.to : Int), .int .i64 (p.ln : Int), .slice aq 2 cq], .nilIface]) ∧ Hid (Reads w' (fun j => w.heap.size ≤ j) (.slice aq p.ps.length cq) p.ps) ∧ Below w.heap.size w w' := by
    refine (parse_any ptT w (by decide) hM).mono ?_
    rintro e w' ⟨v, rfl, hv, hb⟩
    obtain ⟨aq, cq, rfl, hr⟩ := part_some h1 hv
    exact ⟨aq, cq, by rw [aggP, h2], hr, hb⟩
  have cT : ∀ W aq cq, Reads W (fun j => w.heap.size ≤ j) (.slice aq p.ps.length cq) p.ps → Calls Tryd.prog 40 #[.agg #[.string ⟨p.ty.toArray⟩, .string ⟨p.bd.toArray⟩, .int .i64 (p.fr : Int), .int .i64 (p.to : Int), .int .i64 (p.ln : Int), .slice aq 2 cq]] W fun e w' => e = .returned (.string ⟨ptW.toArray⟩) ∧ Below W.heap.size W w' := fun W aq cq hr => by
    have := tell_any 7 p aq cq W _ (by decide) hF hr
    rw [aggP, h2, h3] at this
    exact this
  clear h1 h2 h3 hF
  unfold ptT at cP
  unfold ptW at cT
  go_enter Tryd.func15, Tryd.ntmps15
  go_wp2_with (first
    | (go_at_call 16; go_loud (refine cP.mono ?_; rintro e w1 ⟨aq, cq, rfl, HR, y⟩; have xb := World.heap_alloc_new w1 (.cells #[.string ⟨p.ty.toArray⟩, .string ⟨p.bd.toArray⟩, .int .i64 (p.fr : Int), .int .i64 (p.to : Int), .int .i64 (p.ln : Int), .slice aq 2 cq] 40); have u0 := (six_cells xb).1; have u1 := (six_cells xb).2.1; have u2 := (six_cells xb).2.2.1; have u3 := (six_cells xb).2.2.2.1; have u4 := (six_cells xb).2.2.2.2.1; have u5 := (six_cells xb).2.2.2.2.2; have yb := (Below.refl w1.heap.size w1).alloc (Nat.le_refl _) (.cells #[.string ⟨p.ty.toArray⟩, .string ⟨p.bd.toArray⟩, .int .i64 (p.fr : Int), .int .i64 (p.to : Int), .int .i64 (p.ln : Int), .slice aq 2 cq] 40); have HR2 := reads_below HR.out yb))
    | (go_at_call 40; go_loud (refine (cT _ _ _ HR2).mono ?_; rintro e w2 ⟨rfl, h2⟩)))
  go_ret
  exact ⟨rfl, (y.trans (yb.mono y.size)).trans (h2.mono (Nat.le_trans y.size yb.size))⟩
end Go.Proofs.YtmjfhhladicacaaDoor
