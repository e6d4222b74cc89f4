/- The walks over wire's parser: any part; what Parse defers. Conditions: strconv's table of powers and its two errors, and bytealg.MaxLen, lie as the program's text lays them. -/
import Derived.Test.YtbfndlmihijcgaaGreatDoorParseE
import Derived.Recover
import Derived.WalkSpells
namespace Go.Proofs.YtbfndlmihijcgaaGreatDoor
open Go.RowKit Go.Shelf Go.Sort

theorem arg_any (P : Nat) (S : List UInt8) (hS : S.length ≤ 1000000) (h2 : 2 ≤ S.length) : ∀ (f a n d : Nat) (w : World), ParsW w P S a n → n ≤ 60 → d ≤ 7 → a ≤ S.length → 2 * (60 - n) + 1 ≤ f → WireG w → Calls Tryz.prog 17 #[.pointer (some ⟨P, 0, none⟩), .int .i64 (d : Int)] w (ArgR P S w (argF S f d a n)) := by
  intro f
  induction f using Nat.strongRecOn with
  | _ f ih =>
    intro a n d w hP hn hd ha hf hG
    obtain ⟨f, rfl⟩ : ∃ f', f = f' + 1 := ⟨f - 1, by omega⟩
    by_cases hlim : 60 < n + 1 ∨ 6 < d
    · exact arg_limit P a n d f S w hP hn hd hlim
    · by_cases h40 : (bodyL S)[a]? = some 40
      · refine arg_list P d f S hS h2 (by omega) (fun f' hf' a' n' w' h1 h2' h3 h4 h5 => ?_) a n w hP (by omega) h40 hG (by omega)
        have := ih f' (by omega) a' n' (d + 1) w' h1 h2' (by omega) h3 h4 h5
        exact this
      · exact arg_leaf P a n d f S w hP hS h2 ha hlim h40 hG

theorem wp_tmps {P : Program} {c : Code} {t t' : Array Value} {d : List Deferred} {w : World} {Q : Exit → Act → World → Prop} (e : t = t') (h : c.wp P Q { tmps := t', defers := d } w) : c.wp P Q { tmps := t, defers := d } w := e ▸ h
theorem wp_hide {P : Program} {c : Code} {a : Act} {w : World} {Q : Exit → Act → World → Prop} (h : ∀ Q' : Exit → Act → World → Prop, (∀ e a' w', Q e a' w' → Q' e a' w') → c.wp P Q' a w) : c.wp P Q a w := h Q (fun _ _ _ h => h)
set_option maxRecDepth 100000 in
set_option maxHeartbeats 4000000 in
/-- what Parse defers, where nothing was thrown -/
theorem catch_idle (p q : Addr) (w : World) :
    CallsD Tryz.prog 10 #[.pointer (some p), .pointer (some q)] .returning w fun e u' w' => e = .returned (.tuple #[]) ∧ u' = .returning ∧ w' = w := by
  refine callsD_of_wpS Tryz.func10 rfl fun c₀ cs hu => ?_
  apply wpS_seq
  apply wpS_region
  simp [wpOpsS, go_sem, recoverD, hu, Tryz.ntmps10, Exit.thenS]
  apply wpS_seq
  apply wpS_region
  simp [wpOpsS, go_sem, Exit.thenS]
  refine wpS_cond (t := false) (by simp [Act.eval, Array.replicate]) ?_
  simp only [Bool.false_eq_true, if_false]
  refine wpS_of_wp (wp_skip ?_)
  cases c₀
  simp_all [bodyPostS, results, Tryz.results10]

set_option maxRecDepth 100000 in
set_option maxHeartbeats 4000000 in
/-- what Parse defers, where an error was thrown -/
theorem catch_bad (C E B : Nat) (tv x0 x1 x2 x3 : Value) (older : List PanicEntry) (w : World) (hC : w.heap[C]? = some (.cells #[x0, x1, x2] 25 (0, 0))) (hE : w.heap[E]? = some (.cells #[x3] 27 (0, 0))) :
    CallsD Tryz.prog 10 #[.pointer (some ⟨C, 0, none⟩), .pointer (some ⟨E, 0, none⟩)] (.panicking ({ v := .iface 39 (.agg #[.iface 54 (.pointer (some ⟨B, 0, none⟩))]), recovered := false } :: older)) w fun e u' w' =>
      e = .returned (.tuple #[]) ∧ u' = .panicking ({ v := .iface 39 (.agg #[.iface 54 (.pointer (some ⟨B, 0, none⟩))]), recovered := true } :: older) ∧ Kept (fun k => k = C ∨ k = E) w w' ∧ w'.heap[C]? = some (.cells #[.string ⟨#[]⟩, .string ⟨#[]⟩, .slice none 0 0] 25 (0, 0)) ∧ w'.heap[E]? = some (.cells #[.iface 54 (.pointer (some ⟨B, 0, none⟩))] 27 (0, 0)) := by
  obtain ⟨c0, c1, c2⟩ := three_cells hC
  have e0 : w.cell? ⟨E, 0, none⟩ = some x3 := by rw [Lib.cell_of_heap hE]; rfl
  have fC := Lib.frozen_of_heap hC
  have fE := Lib.frozen_of_heap hE 0
  have ta : ∀ W : World, (Instr.typeAssert (.iface 39 (.agg #[.iface 54 (.pointer (some ⟨B, 0, none⟩))])) 20 39 true).run Tryz.prog W = .ok (.tuple #[.agg #[.iface 54 (.pointer (some ⟨B, 0, none⟩))], .bool true]) W := fun W => by kernel_rfl
  refine callsD_of_wpS Tryz.func10 rfl fun c₀ cs hu => ?_
  apply wpS_seq
  apply wpS_region
  simp [wpOpsS, go_sem, recoverD, hu, Tryz.ntmps10, Exit.thenS]
  refine wpS_of_wp ?_
  refine wp_hide fun Q hQ => ?_
  refine wp_tmps (t' := #[.pointer (some ⟨C, 0, none⟩), .pointer (some ⟨E, 0, none⟩), .iface 39 (.agg #[.iface 54 (.pointer (some ⟨B, 0, none⟩))]), undef, undef, .iface 39 (.agg #[.iface 54 (.pointer (some ⟨B, 0, none⟩))]), undef, undef, undef, undef, undef, undef, undef, undef, undef, undef, undef, undef, undef]) (by kernel_rfl) ?_
  have HQ := Lib.hid hQ
  clear hQ hu
  go_upto_region 5 with fail
  have hC1 := alloc_same (x := .cells #[.iface 54 (.pointer (some ⟨B, 0, none⟩))] 39) hC
  have hE1 := alloc_same (x := .cells #[.iface 54 (.pointer (some ⟨B, 0, none⟩))] 39) hE
  have hX1 := World.heap_alloc_new w (.cells #[.iface 54 (.pointer (some ⟨B, 0, none⟩))] 39)
  have hK1 : Kept (fun k => k = C ∨ k = E) w (w.alloc (.cells #[.iface 54 (.pointer (some ⟨B, 0, none⟩))] 39)) := (Kept.refl _ _).alloc _
  have hCX : C ≠ w.heap.size := Nat.ne_of_lt (Array.getElem?_eq_some_iff.1 hC).1
  have hEX : E ≠ w.heap.size := Nat.ne_of_lt (Array.getElem?_eq_some_iff.1 hE).1
  have hCE : C ≠ E := by
    rintro rfl
    rw [hC] at hE
    cases hE
  generalize w.alloc (.cells #[.iface 54 (.pointer (some ⟨B, 0, none⟩))] 39) = w1 at hC1 hE1 hX1 hK1 ⊢
  generalize w.heap.size = X at hX1 hCX hEX ⊢
  clear c0 c1 c2 e0 fC fE ta
  obtain ⟨c0, c1, c2⟩ := three_cells hC1
  have e0 : w1.cell? ⟨E, 0, none⟩ = some x3 := by rw [Lib.cell_of_heap hE1]; rfl
  have d0 : w1.cell? ⟨X, 0, none⟩ = some (.iface 54 (.pointer (some ⟨B, 0, none⟩))) := by rw [Lib.cell_of_heap hX1]; rfl
  have fC := Lib.frozen_of_heap hC1
  have fE := Lib.frozen_of_heap hE1 0
  have hXC := Ne.symm hCX
  have hXE := Ne.symm hEX
  have hEC := Ne.symm hCE
  go_region
  all_goals
    refine HQ.out _ _ _ ?_
    have kE := hK1.set (p := ⟨C, 0, none⟩) (fun _ => Or.inl rfl) (.string ⟨#[]⟩)
    have kF := ((kE.set (p := ⟨C, 1, none⟩) (fun _ => Or.inl rfl) (.string ⟨#[]⟩)).set (p := ⟨C, 2, none⟩) (fun _ => Or.inl rfl) (.slice none 0 0)).set (p := ⟨E, 0, none⟩) (fun _ => Or.inr rfl) (.iface 54 (.pointer (some ⟨B, 0, none⟩)))
    have hC2 := set_three hC1 (.string ⟨#[]⟩) (.string ⟨#[]⟩) (.slice none 0 0)
    have hC3 := setCell_same (a := ⟨E, 0, none⟩) (u := .iface 54 (.pointer (some ⟨B, 0, none⟩))) hC2 hCE
    have hE2 := (three_heap w1 C (.string ⟨#[]⟩) (.string ⟨#[]⟩) (.slice none 0 0) E hEC).trans hE1
    have hE3 := setCell_one (u := .iface 54 (.pointer (some ⟨B, 0, none⟩))) hE2
    have kG := kF.trans (kept_below (Below.refl _ _).drew)
    exact ⟨rfl, _, rfl, _, results_none rfl _ _ _, rfl, rfl, kG, hC3, hE3⟩
end Go.Proofs.YtbfndlmihijcgaaGreatDoor
