/- The walks over flags.rank, order: each returns what its plain function says. Conditions: flags.system lies as the program's text lays it. -/
import Derived.Test.YteabnpahhkicaaaDoorFlagB
namespace Go.Proofs.YteabnpahhkicaaaDoor
open Go.RowKit Go.Shelf

def sysB : List ByteArray := sysL.map fun t => ⟨t.toArray⟩
theorem sysB_get {j : Nat} (hj : j < 5) : ∃ t, sysL[j]? = some t ∧ sysB.getD j ByteArray.empty = ⟨t.toArray⟩ := by
  obtain ⟨t, ht⟩ : ∃ t, sysL[j]? = some t := ⟨sysL[j]'hj, List.getElem?_eq_getElem hj⟩
  exact ⟨t, ht, by unfold sysB; rw [List.getD, List.getElem?_map, ht]; rfl⟩
theorem bytes_inj {a b : List UInt8} (h : (⟨a.toArray⟩ : ByteArray) = ⟨b.toArray⟩) : a = b := by
  have := congrArg (fun x => x.data.toList) h
  simpa using this
theorem idx_rank (s : List UInt8) : Lib.idxOfS (sysB.take 5) ⟨s.toArray⟩ = if rankF s < 5 then (rankF s : Int) else -1 := by
  by_cases h : rankF s < 5
  · rw [if_pos h]
    obtain ⟨t, ht, hb⟩ := sysB_get h
    have hs : sysL[rankF s]'h = s := List.getElem_idxOf h
    have hts : t = s := by
      rw [List.getElem?_eq_getElem h] at ht
      rw [← Option.some.inj ht]; exact hs
    refine Lib.idxOfS_hit sysB 5 (rankF s) ⟨s.toArray⟩ h (by decide) (by rw [hb, hts]) (fun j hj => ?_)
    obtain ⟨u, hu, hub⟩ := sysB_get (Nat.lt_trans hj h)
    rw [hub]
    intro e
    have e2 := bytes_inj e
    have hj5 : j < 5 := Nat.lt_trans hj h
    have hne := List.not_of_lt_findIdx (p := (· == s)) (xs := sysL) hj
    rw [List.getElem?_eq_getElem hj5] at hu
    have := Option.some.inj hu
    rw [e2] at this
    simp at hne
    exact hne this
  · rw [if_neg h]
    refine Lib.idxOfS_miss sysB 5 ⟨s.toArray⟩ (fun j hj => ?_)
    obtain ⟨u, hu, hub⟩ := sysB_get hj
    rw [hub]
    intro e
    have e2 := bytes_inj e
    have hm : s ∈ sysL := e2 ▸ List.mem_of_getElem? hu
    exact h (List.idxOf_lt_length_iff.2 hm)

set_option maxRecDepth 100000 in
set_option maxHeartbeats 1000000 in
theorem rank_any (s : List UInt8) (w : World) (hG : FlagG w) :
    Calls Tryd.prog 48 #[.string ⟨s.toArray⟩] w fun e w' => e = .returned (.int .i64 (rankF s : Int)) ∧ w = w' := by
  have cI := Tryd.slices_Index_string 0 0 5 5 sysB ⟨s.toArray⟩ w (by decide) (by decide) (fun j hj => by
    obtain ⟨t, ht, hb⟩ := sysB_get (show j < 5 from hj)
    rw [Nat.zero_add, hG.cell ht, hb])
  rw [idx_rank] at cI
  have hl := rank_le s
  by_cases h : rankF s < 5
  · rw [if_pos h] at cI
    go_enter Tryd.func48, Tryd.ntmps48
    go_wp2_with (go_at_call 40; go_loud (with_reducible refine cI.mono ?_; rintro e w1 ⟨rfl, hw⟩; rw [hw]; clear hw))
    go_ret
    exact ⟨rfl, rfl⟩
  · rw [if_neg h] at cI
    have h5 : rankF s = 5 := by omega
    rw [h5]
    clear h5 h hl
    go_enter Tryd.func48, Tryd.ntmps48
    go_wp2_with (go_at_call 40; go_loud (with_reducible refine cI.mono ?_; rintro e w1 ⟨rfl, hw⟩; rw [hw]; clear hw))
    go_ret
    exact ⟨rfl, rfl⟩

set_option maxRecDepth 100000 in
set_option maxHeartbeats 1000000 in
theorem order_any (a b : List UInt8) (w : World) (hG : FlagG w) :
    Calls Tryd.prog 35 #[.string ⟨a.toArray⟩, .string ⟨b.toArray⟩] w fun e w' => e = .returned (.int .i64 (cmpF a b)) ∧ w = w' := by
  have cA := fun W (h : FlagG W) => rank_any a W h
  have cB := fun W (h : FlagG W) => rank_any b W h
  have cC := fun W => Tryd.strings_Compare ⟨a.toArray⟩ ⟨b.toArray⟩ W
  simp only [List.toList_toArray] at cC
  have la := rank_le a
  have lb := rank_le b
  obtain ⟨R, hR⟩ : ∃ R, cmpF a b = R := ⟨_, rfl⟩
  rw [hR]
  unfold cmpF at hR
  by_cases he : rankF a = rankF b
  · rw [if_pos he] at hR
    rw [hR] at cC
    rw [he] at cA
    have hz : (rankF b : Int) - (rankF b : Int) = 0 := Int.sub_self _
    generalize rankF b = r at *
    clear hR he
    go_enter Tryd.func35, Tryd.ntmps35
    go_wp2_with (first
      | (go_at_call 48; with_reducible refine (cA _ hG).mono ?_; rintro e w1 ⟨rfl, hw⟩; rw [← hw]; clear hw)
      | (go_at_call 48; with_reducible refine (cB _ hG).mono ?_; rintro e w1 ⟨rfl, hw⟩; rw [← hw]; clear hw)
      | (go_at_call 49; with_reducible refine (cC _).mono ?_; rintro e w1 ⟨rfl, hw⟩; rw [hw]; clear hw))
    go_ret
    exact ⟨rfl, rfl⟩
  · rw [if_neg he] at hR
    have hne : ((rankF a : Int) - (rankF b : Int) == 0) = false := by rw [beq_eq_false_iff_ne]; omega
    have hne2 : ¬((rankF a : Int) - (rankF b : Int) = 0) := by omega
    have HR := Lib.hid hR
    clear hR he
    generalize rankF a = ra at *
    generalize rankF b = rb at *
    go_enter Tryd.func35, Tryd.ntmps35
    go_wp2_with (first
      | (go_at_call 48; with_reducible refine (cA _ hG).mono ?_; rintro e w1 ⟨rfl, hw⟩; rw [← hw]; clear hw)
      | (go_at_call 48; with_reducible refine (cB _ hG).mono ?_; rintro e w1 ⟨rfl, hw⟩; rw [← hw]; clear hw)
      | (go_at_call 49; with_reducible refine (cC _).mono ?_; rintro e w1 ⟨rfl, hw⟩; rw [hw]; clear hw))
    go_ret
    exact ⟨by rw [← HR.out]; rfl, rfl⟩
end Go.Proofs.YteabnpahhkicaaaDoor
