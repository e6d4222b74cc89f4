/- What the walk over the law MimeNests needs: the message that is put together, in pieces; Find of one number. No condition. -/
import Derived.Test.YtmjfhhladicacaaDoorMimeH
namespace Go.Proofs.YtmjfhhladicacaaDoor
open Go.RowKit Go.Shelf

theorem anyM (l cs : List UInt8) : Lib.containsAny l cs = l.any (cs.contains ·) := by
  induction l with
  | nil => rfl
  | cons c r ih =>
    rw [List.any_cons, ← ih]
    unfold Lib.containsAny
    rw [Lib.indexAny]
    by_cases h : cs.contains c = true
    · rw [if_pos h, h]; rfl
    · rw [if_neg h]
      have h2 : cs.contains c = false := by simpa using h
      rw [h2, Bool.false_or]
      by_cases h3 : Lib.indexAny r cs < 0
      · simp [h3]
        omega
      · have h4 : ¬ (Lib.indexAny r cs = -1) := by omega
        simp [h3, h4]
        omega
def hpS : List UInt8 := [67, 111, 110, 116, 101, 110, 116, 45, 84, 121, 112, 101, 58, 32, 109, 117, 108, 116, 105, 112, 97, 114, 116, 47, 120, 59, 32, 98, 111, 117, 110, 100, 97, 114, 121, 61, 34]
theorem head_eq (B : List UInt8) : headB B = hpS ++ B ++ [34, 13, 10, 13, 10] := by
  unfold headB printF lineF vB hpS mxS ctN
  simp
theorem blk_eq (B x : List UInt8) : blkB B x = [45, 45] ++ B ++ [13, 10, 13, 10] ++ x ++ [13, 10] := by
  unfold blkB; simp
theorem fin_eq (B : List UInt8) : finB B = [45, 45] ++ B ++ [45, 45, 13, 10] := by
  unfold finB; simp
def msgK (B : List UInt8) (l : List (List UInt8)) (k : Nat) : List UInt8 := headB B ++ (l.take k).flatMap (blkB B)
theorem msgK_step {B : List UInt8} {l : List (List UInt8)} {k : Nat} {x : List UInt8} (h : l[k]? = some x) : msgK B l (k + 1) = msgK B l k ++ blkB B x := by
  unfold msgK
  rw [List.take_add_one, h]
  simp
theorem msgK_all (B : List UInt8) (l : List (List UInt8)) : msgK B l l.length ++ finB B = msgB B l := by
  unfold msgK msgB
  rw [List.take_length, List.append_assoc]
theorem msgK_zero (B : List UInt8) (l : List (List UInt8)) : msgK B l 0 = headB B := by
  unfold msgK; simp

theorem find_at (p : PT) (ao : Option Addr) (cap : Nat) (n : Int) (W : World) (ok : Nat → Prop) (gp : Nat) (hF : Fine gp p) (hp : Reads W ok (.slice ao p.ps.length cap) p.ps) :
    Calls Tryd.prog 20 #[aggP p ao cap, .slice (some ⟨W.heap.size, 0, none⟩) 1 1] (W.alloc (.cells #[.int .i64 n] 3)) fun e w' => ∃ v, e = .returned v ∧ FindRes (findF p [n]) v w' ok ∧ Below W.heap.size W w' := by
  have hA := (Below.refl W.heap.size W).alloc (Nat.le_refl _) (.cells #[.int .i64 n] 3)
  refine (find_any p ao cap _ [n] _ ok (reads_below hp hA) gp hF (rowAt_new W _ _) (by simp)).mono ?_
  rintro e w' ⟨v, rfl, h1, h2⟩
  exact ⟨v, rfl, h1, hA.trans (h2.mono hA.size)⟩
end Go.Proofs.YtmjfhhladicacaaDoor
