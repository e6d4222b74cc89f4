/- The walks over a house's Want, List. Conditions: utf8's two tables and bytealg.MaxLen lie as the program's text lays them (where a name is read). -/
import Derived.Test.YtdlfbhbgemoelaaGreatDoorHouP
import Derived.Test.YtdlfbhbgemoelaaGreatDoorDelX
namespace Go.Proofs.YtdlfbhbgemoelaaGreatDoor
open Go.RowKit Go.Shelf Go.Sort Go.Maps
set_option linter.unusedSimpArgs false

set_option maxRecDepth 100000 in
theorem yes_bool {v : Value} {b : Bool} {ps : List MemPlace} (h : plainElem (H := Unit) Tryz.prog 4 v = some (.lit (.bool b), ps)) : v = .bool b := by
  unfold plainElem at h
  rw [Tryz.underlying4] at h
  cases v <;> first | (cases h; rfl) | cases h
theorem wm_look {w : World} {M : Nat} {L : List Bs} (h : WM w M L) {s : Bs} (hl : s.length ≤ 1000000) : (Instr.lookup 59 (.map (some M)) (.string ⟨s.toArray⟩) false).run Tryz.prog w = .ok (.bool (decide (s ∈ L))) w := by
  obtain ⟨D, h1, h2⟩ := h
  obtain ⟨v, ps, hrun, hv⟩ := h1.lookup lawS (t := 59) Tryz.underlying59 (zero_yes w) (zd := .lit (.bool false)) (zp := []) (plainElem_bool Tryz.underlying4 false) (key_ofS hl)
  rw [h2.at_] at hv
  have : (if s ∈ L then (DataW.lit (.bool true) : DataW Unit) else .lit (.bool false)) = .lit (.bool (decide (s ∈ L))) := by
    by_cases hs : s ∈ L
    · rw [if_pos hs, decide_eq_true hs]
    · rw [if_neg hs, decide_eq_false hs]
  rw [this] at hv
  obtain rfl := yes_bool hv
  exact hrun
section
variable (w : World) {ops : Array Oper} {rest : List Oper} {o : Oper} {a : Act} {Q : Exit → Act → World → Prop}
theorem wpList_store_wm (hg : o.guard = none) (m x v : Operand) (hop : o.op = Op.mapUpdate 59 m x v) (M : Nat) (L : List Bs) (hm : a.eval m = .map (some M)) (h : WM w M L)
    (s : Bs) (hx : a.eval x = .string ⟨s.toArray⟩) (hl : s.length ≤ 1000000) (hv : a.eval v = .bool true) (hn : L.length ≤ 1000000)
    (hK : ∀ w', WM w' M (insS s L) → Kept (fun k => k = M) w w' → wpList Tryz.prog ops Q rest (a.put o.dst undef) w') : wpList Tryz.prog ops Q (o :: rest) a w := by
  have hmx : L.length < maxLen := by unfold maxLen; omega
  obtain ⟨D, h1, h2⟩ := h
  refine wpList_mapUpdate_own w hg m x v 59 hop 9 4 lawS Tryz.underlying59 (plainElem Tryz.prog 4) M L.length D hm h1 hmx _ _ (.string s) hx hv (key_ofS hl) (.lit (.bool true)) [] (plainElem_bool Tryz.underlying4 true) ?_
  intro w' hown hgr
  have h3 := (h2.put s (.lit (.bool true))).congr (e' := fun _ => .lit (.bool true)) (fun x _ => by unfold updE; split <;> rfl)
  exact hK w' ⟨_, owns_tight hown (h3.size hown Tryz.underlying9), h3⟩ (Kept.mono (T := fun k => k = M) (kept_grown hgr) (fun k _ e => (Option.some.inj e).symm))
theorem wpList_delete_wm (hg : o.guard = none) (m x : Operand) (hop : o.op = Op.call { callee := Callee.builtin Builtin.delete, args := #[m, x], argTypes := #[59, 9] }) (M : Nat) (L : List Bs) (hm : a.eval m = .map (some M)) (h : WM w M L)
    (s : Bs) (hx : a.eval x = .string ⟨s.toArray⟩) (hl : s.length ≤ 1000000)
    (hK : ∀ w', WM w' M (delS s L) → Kept (fun k => k = M) w w' → wpList Tryz.prog ops Q rest (a.put o.dst (.tuple #[])) w') : wpList Tryz.prog ops Q (o :: rest) a w := by
  obtain ⟨D, h1, h2⟩ := h
  refine wpList_delete_own w hg m x 59 9 hop 4 lawS Tryz.underlying59 (plainElem Tryz.prog 4) M L.length D hm h1 _ (.string s) hx (key_ofS hl) ?_
  intro w' hown hgr
  have h3 := h2.del s
  exact hK w' ⟨_, owns_tight hown (h3.size hown Tryz.underlying9), h3⟩ (Kept.mono (T := fun k => k = M) (kept_grown hgr.grown) (fun k _ e => (Option.some.inj e).symm))
theorem wpList_len_wm (hg : o.guard = none) (m : Operand) (hop : o.op = Op.call { callee := Callee.builtin Builtin.len, args := #[m], argTypes := #[59] }) (M : Nat) (L : List Bs) (hm : a.eval m = .map (some M)) (h : WM w M L)
    (hK : wpList Tryz.prog ops Q rest (a.put o.dst (.int .i64 (L.length : Int))) w) : wpList Tryz.prog ops Q (o :: rest) a w := by
  obtain ⟨D, h1, h2⟩ := h
  refine wpList_len_own w hg m 59 hop 9 4 Tryz.underlying59 (plainElem Tryz.prog 4) M L.length D hm h1 ?_
  rw [h2.size h1 Tryz.underlying9]
  exact hK
end
/-- what Want says, and leaves -/
def WantedS (N : Nat) (w : World) (H mb mw : Nat) (h : HouseC) (r : Nat ⊕ List Bs) (e : Ending) (w' : World) : Prop := match r with
  | .inl m => e = .returned (.iface 55 (.int .i64 (m : Int))) ∧ Below w.heap.size w w'
  | .inr W => e = .returned .nilIface ∧ HouseS N w' H mb mw { h with W := W } ∧ Kept (fun k => k = mw) w w'
theorem house_want {N : Nat} {w w1 w2 : World} {H mb mw : Nat} {h : HouseC} {W : List Bs} (hS : HouseS N w H mb mw h) (hb : Below w.heap.size w w1) (hW : WM w2 mw W) (hk : Kept (fun k => k = mw) w1 w2) (hl : ∀ x ∈ W, x.length ≤ 60) : HouseS N w2 H mb mw { h with W := W } ∧ Kept (fun k => k = mw) w w2 := by
  have hS1 := hS.below hb
  have hne := hS1.nes
  exact ⟨{ hS1 with cells := hk.obj hS1.cells hne.2, boxes := hS1.boxes.kept hk hS1.ne, wants := hW, box := fun x hx => ⟨(hS1.box x hx).1, hk.obj (hS1.box x hx).2 (hS1.box_ne hx).2.2.1⟩, lenW := hl }, (kept_below hb).trans hk⟩
set_option maxRecDepth 100000 in
set_option maxHeartbeats 4000000 in
theorem hwant_any (N H mb mw : Nat) (h : HouseC) (s : Bs) (on : Bool) (w : World) (hS : HouseS N w H mb mw h) (hs : s.length ≤ 1000000) (hm : h.W.length ≤ 100000) (hG : HG w) :
    Calls Tryz.prog 24 #[.pointer (some ⟨H, 0, none⟩), .string ⟨s.toArray⟩, .bool on] w (WantedS N w H mb mw h (hwantF h.W s on)) := by
  have cN := hname_any s w hs hG
  unfold hwantF
  cases hn : hnameF s with
  | none =>
    rw [hn] at cN
    have cN : Calls Tryz.prog 8 #[.string ⟨s.toArray⟩] w fun e w' => e = .returned (.tuple #[.string ⟨#[]⟩, .iface 55 (.int .i64 1)]) ∧ Below w.heap.size w w' := cN
    clear hn hS
    show Calls _ _ _ _ fun e w' => e = .returned (.iface 55 (.int .i64 1)) ∧ Below w.heap.size w w'
    go_enter Tryz.func24, Tryz.ntmps24
    go_wp2_with (go_at_call 8; ((with_reducible refine cN.mono ?_); rintro e w1 ⟨rfl, hb1⟩))
    go_ret
    exact ⟨rfl, hb1⟩
  | some n =>
    rw [hn] at cN
    have cN : Calls Tryz.prog 8 #[.string ⟨s.toArray⟩] w fun e w' => e = .returned (.tuple #[.string ⟨n.toArray⟩, .nilIface]) ∧ Below w.heap.size w w' := cN
    have hl := (hnameF_len hn).1
    have cL : ∀ W, Below w.heap.size w W → (Instr.lookup 59 (.map (some mw)) (.string ⟨n.toArray⟩) false).run Tryz.prog W = .ok (.bool (decide (n ∈ h.W))) W ∧ W.cell? ⟨H, 1, none⟩ = some (.map (some mw)) ∧ Hid (WM W mw h.W) := fun W hW => ⟨wm_look (hS.wants.below hW) (by omega), (three_cells (hS.below hW).cells).2.1, Lib.hid (hS.wants.below hW)⟩
    have hdel : ∀ w1 w2, Below w.heap.size w w1 → WM w2 mw (delS n h.W) → Kept (fun k => k = mw) w1 w2 → WantedS N w H mb mw h (.inr (delS n h.W)) (.returned .nilIface) w2 := fun w1 w2 h1 h2 h3 => ⟨rfl, house_want hS h1 h2 h3 (fun x hx => hS.lenW x (mem_delS.1 hx).1)⟩
    have hput : ∀ w1 w2, Below w.heap.size w w1 → WM w2 mw (insS n h.W) → Kept (fun k => k = mw) w1 w2 → WantedS N w H mb mw h (.inr (insS n h.W)) (.returned .nilIface) w2 := fun w1 w2 h1 h2 h3 => ⟨rfl, house_want hS h1 h2 h3 (fun x hx => (mem_insS.1 hx).elim (fun e => e ▸ hl) (hS.lenW x))⟩
    have HDEL := Lib.hid hdel
    have HPUT := Lib.hid hput
    obtain ⟨bw, hbw⟩ : ∃ bw, decide (n ∈ h.W) = bw := ⟨_, rfl⟩
    rw [hbw] at cL
    clear hn hS hdel hput
    cases on with
    | false =>
      show Calls _ _ _ _ (WantedS N w H mb mw h (if false = false then (if n ∈ h.W then .inr (delS n h.W) else .inl 7) else _))
      rw [if_pos rfl]
      cases bw with
      | false =>
        rw [if_neg (by simpa using hbw)]
        clear hbw
        show Calls _ _ _ _ fun e w' => e = .returned (.iface 55 (.int .i64 7)) ∧ Below w.heap.size w w'
        go_enter Tryz.func24, Tryz.ntmps24
        go_wp2_with (go_at_call 8; ((with_reducible refine cN.mono ?_); rintro e w1 ⟨rfl, hb1⟩; obtain ⟨hr, hc, -⟩ := cL _ hb1))
        go_ret
        exact ⟨rfl, hb1⟩
      | true =>
        rw [if_pos (by simpa using hbw)]
        clear hbw
        go_enter Tryz.func24, Tryz.ntmps24
        go_wp2_with (first
          | (go_at_call 8; ((with_reducible refine cN.mono ?_); rintro e w1 ⟨rfl, hb1⟩; obtain ⟨hr, hc, hW1⟩ := cL _ hb1))
          | (at_delete; refine wpList_delete_wm _ rfl _ _ rfl mw h.W rfl hW1.out n rfl (by omega) ?_; intro w4 hW4 hK4))
        go_ret
        exact HDEL.out _ _ hb1 hW4 hK4
    | true =>
      show Calls _ _ _ _ (WantedS N w H mb mw h (if true = false then _ else if 60 ≤ h.W.length ∧ n ∉ h.W then .inl 12 else .inr (insS n h.W)))
      rw [if_neg (by decide)]
      by_cases hfull : 60 ≤ h.W.length
      · have hfz : (60 : Int) ≤ (h.W.length : Int) := by omega
        cases bw with
        | false =>
          rw [if_pos ⟨hfull, by simpa using hbw⟩]
          clear hbw hfull
          show Calls _ _ _ _ fun e w' => e = .returned (.iface 55 (.int .i64 12)) ∧ Below w.heap.size w w'
          go_enter Tryz.func24, Tryz.ntmps24
          go_wp2_with (first
            | (go_at_call 8; ((with_reducible refine cN.mono ?_); rintro e w1 ⟨rfl, hb1⟩; obtain ⟨hr, hc, hW1⟩ := cL _ hb1))
            | (at_len; refine wpList_len_wm _ rfl _ rfl mw h.W rfl hW1.out ?_))
          go_ret
          exact ⟨rfl, hb1⟩
        | true =>
          rw [if_neg (fun e => e.2 (by simpa using hbw))]
          clear hbw hfull
          go_enter Tryz.func24, Tryz.ntmps24
          go_wp2_with (first
            | (go_at_call 8; ((with_reducible refine cN.mono ?_); rintro e w1 ⟨rfl, hb1⟩; obtain ⟨hr, hc, hW1⟩ := cL _ hb1))
            | (at_len; refine wpList_len_wm _ rfl _ rfl mw h.W rfl hW1.out ?_)
            | (at_mapUpdate; go_must (refine wpList_store_wm _ rfl _ _ _ rfl mw h.W rfl hW1.out n rfl (by omega) rfl (by omega) ?_); intro w4 hW4 hK4))
          go_ret
          exact HPUT.out _ _ hb1 hW4 hK4
      · have hfz : ¬ ((60 : Int) ≤ (h.W.length : Int)) := by omega
        rw [if_neg (fun e => hfull e.1)]
        clear hbw hfull
        go_enter Tryz.func24, Tryz.ntmps24
        go_wp2_with (first
          | (go_at_call 8; ((with_reducible refine cN.mono ?_); rintro e w1 ⟨rfl, hb1⟩; obtain ⟨hr, hc, hW1⟩ := cL _ hb1))
          | (at_len; refine wpList_len_wm _ rfl _ rfl mw h.W rfl hW1.out ?_)
          | (at_mapUpdate; go_must (refine wpList_store_wm _ rfl _ _ _ rfl mw h.W rfl hW1.out n rfl (by omega) rfl (by omega) ?_); intro w4 hW4 hK4))
        go_ret
        exact HPUT.out _ _ hb1 hW4 hK4
/-- which names a list has -/
def hlistF (h : HouseC) (p : Bs) (wanted : Bool) : List Bs := (if wanted = true then h.W else h.L).filter (matB p)
end Go.Proofs.YtdlfbhbgemoelaaGreatDoor
