/- slices.DeleteFunc at a row of texts and house.List's own function, which makes memory. No condition beyond those each names. slices.DeleteFunc at a row of texts and house.List's own function, which makes memory: the whole. No condition beyond those each names. -/
import Derived.Test.YtghchmipoghmiaaGreatDoorDelG
import Derived.Test.YtghchmipoghmiaaGreatDoorMatch
import Derived.Lib.SliceRun
namespace Go.Proofs.YtghchmipoghmiaaGreatDoor
open Go.RowKit Go.Shelf Go.Sort
set_option linter.unusedSimpArgs false

theorem owns_set {w : World} {B g n cap i : Nat} {e : TypeId} {xs : List Value} (h : w.ownsRow B e 1 (.slice (some ⟨g, 0, none⟩) n cap) n xs) (hi : i < n) (u : Value) : (w.setCell ⟨g, i, none⟩ u).ownsRow B e 1 (.slice (some ⟨g, 0, none⟩) n cap) n (xs.set i u) := by
  obtain ⟨h1, h2⟩ := h
  refine ⟨by rw [List.length_set]; exact h1, ?_⟩
  rcases h2 with ⟨h2, _⟩ | ⟨g', cap', cur, hv, hbase, hh, k1, k2, k3, k4⟩
  · cases h2
  · cases hv
    refine Or.inr ⟨g, cap, cur.setIfInBounds i u, rfl, hbase, ?_, k1, k2, by rw [Array.size_setIfInBounds]; exact k3, ?_⟩
    · simp only [World.setCell, Array.getElem?_modify, if_pos, hh]
      rfl
    · rw [Array.toList_setIfInBounds, ← k4, ← List.take_set]
theorem owns_setHigh {w : World} {B g n cap o : Nat} {e : TypeId} {xs : List Value} (h : w.ownsRow B e 1 (.slice (some ⟨g, 0, none⟩) n cap) n xs) (ho : n ≤ o) (u : Value) : (w.setCell ⟨g, o, none⟩ u).ownsRow B e 1 (.slice (some ⟨g, 0, none⟩) n cap) n xs := by
  obtain ⟨h1, h2⟩ := h
  refine ⟨h1, ?_⟩
  rcases h2 with ⟨h2, _⟩ | ⟨g', cap', cur, hv, hbase, hh, k1, k2, k3, k4⟩
  · cases h2
  · cases hv
    refine Or.inr ⟨g, cap, cur.setIfInBounds o u, rfl, hbase, ?_, k1, k2, by rw [Array.size_setIfInBounds]; exact k3, ?_⟩
    · simp only [World.setCell, Array.getElem?_modify, if_pos, hh]
      rfl
    · rw [Array.toList_setIfInBounds, ← k4, List.take_set_of_le (by omega)]
theorem owns_setCells {B g n cap : Nat} {e : TypeId} {xs : List Value} : ∀ (vs : List Value) (o : Nat) (w : World), w.ownsRow B e 1 (.slice (some ⟨g, 0, none⟩) n cap) n xs → n ≤ o → (w.setCells g o vs).ownsRow B e 1 (.slice (some ⟨g, 0, none⟩) n cap) n xs
  | [], _, _, h, _ => h
  | v :: r, o, w, h, ho => owns_setCells r (o + 1) _ (owns_setHigh h ho v) (by omega)
theorem kept_setCells {S : Nat → Prop} {g : Nat} (hg : S g) : ∀ (vs : List Value) (o : Nat) (w0 w : World), Kept S w0 w → Kept S w0 (w.setCells g o vs)
  | [], _, _, _, h => h
  | v :: r, o, w0, w, h => kept_setCells hg r (o + 1) w0 _ (h.set (p := ⟨g, o, none⟩) (fun _ => hg) v)
theorem kept_grownBy {g : Nat} {w w' : World} (h : Kept (fun k => k = g) w w') : w.grownBy w' (some g) := ⟨h.os, h.tape, h.output, h.size, fun k hk hne => h.block k hk (fun e => hne (by rw [e]))⟩
set_option maxRecDepth 100000 in
set_option maxHeartbeats 2000000 in
theorem list1_any (p s : List UInt8) (B : Nat) (W : World) (hc : W.cell? ⟨B, 0, none⟩ = some (.string ⟨p.toArray⟩)) (hp : p.length ≤ 100000) (hs : s.length ≤ 100000) :
    Calls Tryz.prog 35 #[.string ⟨s.toArray⟩, .pointer (some ⟨B, 0, none⟩)] W fun e w' => e = .returned (.bool (!matB p s)) ∧ Below W.heap.size W w' := by
  have cM := hmatch_any p s W hp hs
  go_enter Tryz.func35, Tryz.ntmps35
  go_wp2_with (go_at_call 19; ((with_reducible refine cM.mono ?_); rintro e w1 ⟨rfl, hb⟩))
  go_ret
  exact ⟨rfl, hb⟩
/-- the first that is not kept -/
def IxS (k : List UInt8 → Bool) (a : List (List UInt8)) (w : World) (e : Ending) (w' : World) : Prop :=
  ∃ z : Int, e = .returned (.int .i64 z) ∧ ((z = -1 ∧ a.all k = true) ∨ ∃ (i : Nat) (x : List UInt8), z = (i : Int) ∧ a[i]? = some x ∧ k x = false ∧ (a.take i).all k = true) ∧ Below w.heap.size w w'
theorem all_take_succ {k : List UInt8 → Bool} {a : List (List UInt8)} {i : Nat} {x : List UInt8} (h : a[i]? = some x) (h1 : (a.take i).all k = true) (h2 : k x = true) : (a.take (i + 1)).all k = true := by
  rw [List.take_add_one, h, List.all_append, h1]
  simp [h2]
set_option maxRecDepth 100000 in
set_option maxHeartbeats 4000000 in
theorem indexW_any (p : List UInt8) (a : List (List UInt8)) (g cap B Bx : Nat) (w : World) (hown : w.ownsRow B 9 1 (.slice (some ⟨g, 0, none⟩) a.length cap) a.length (a.map encStr)) (hal : a.length ≤ 100000) (ha : ∀ x ∈ a, x.length ≤ 100000) (hp : p.length ≤ 100000) (hc : w.cell? ⟨Bx, 0, none⟩ = some (.string ⟨p.toArray⟩)) :
    Calls Tryz.prog 57 #[.slice (some ⟨g, 0, none⟩) a.length cap, .func (.func 35) #[] #[.pointer (some ⟨Bx, 0, none⟩)]] w (IxS (matB p) a w) := by
  obtain ⟨n, hn⟩ : ∃ n, a.length = n := ⟨_, rfl⟩
  rw [hn] at hown hal ⊢
  have HOWN := Lib.hid hown
  have HN := Lib.hid hn
  have HA := Lib.hid ha
  have HC := Lib.hid hc
  clear hown hn ha hc
  go_enter Tryz.func57, Tryz.ntmps57
  go_wp2_with fail
  go_loopg [8] n (fun gk s8 wr => ∃ k : Nat, k + gk = n ∧ s8 = .int .i64 (k : Int) ∧ Hid ((a.take k).all (matB p) = true) ∧ Hid (Below w.heap.size w wr))
  case atStart => exact ⟨0, by omega, rfl, Lib.hid (by simp), Lib.hid (Below.refl _ _)⟩
  case round =>
    obtain ⟨k, hk, rfl, HK, HB⟩ := hrel
    by_cases hlt : k < n
    · obtain ⟨g', rfl⟩ : ∃ g', gk = g' + 1 := ⟨gk - 1, by omega⟩
      obtain ⟨x, hx⟩ : ∃ x, a[k]? = some x := ⟨a[k]'(by rw [HN.out]; exact hlt), List.getElem?_eq_getElem _⟩
      have hcx : wr.cell? ⟨g, k, none⟩ = some (.string ⟨x.toArray⟩) := owns_cell (owns_same HOWN.out (fun _ _ hk _ => below_same HB.out hk)) (by rw [List.getElem?_map, hx]; rfl)
      have cL := list1_any p x Bx wr (below_cell HB.out HC.out) hp (HA.out x (List.mem_of_getElem? hx))
      have hkz : (k : Int) < (n : Int) := by omega
      have HX := Lib.hid hx
      obtain ⟨b, hb⟩ : ∃ b, matB p x = b := ⟨_, rfl⟩
      rw [hb] at cL
      have HBX := Lib.hid hb
      clear hx hb
      cases b with
      | true =>
        have HK2 := Lib.hid (all_take_succ HX.out HK.out HBX.out)
        go_wp2_with (go_at_call 35; ((with_reducible refine cL.mono ?_); rintro e w1 ⟨rfl, hb1⟩))
        have hb2 := HB.out.trans (hb1.mono HB.out.size)
        go_roundg g'
        case measure => omega
        case rel => exact ⟨k + 1, by omega, by go_num, HK2, Lib.hid hb2⟩
      | false =>
        go_wp2_with (go_at_call 35; ((with_reducible refine cL.mono ?_); rintro e w1 ⟨rfl, hb1⟩))
        have hb2 := HB.out.trans (hb1.mono HB.out.size)
        go_ret
        exact ⟨_, rfl, Or.inr ⟨k, x, rfl, HX.out, HBX.out, HK.out⟩, hb2⟩
    · obtain rfl : k = n := by omega
      have hall : a.all (matB p) = true := by
        have := HK.out
        rwa [List.take_of_length_le (by rw [HN.out]; exact Nat.le_refl _)] at this
      have HALL := Lib.hid hall
      clear hall
      go_wp2_with fail
      go_ret
      exact ⟨_, rfl, Or.inl ⟨rfl, HALL.out⟩, HB.out⟩
end Go.Proofs.YtghchmipoghmiaaGreatDoor
namespace Go.Proofs.YtghchmipoghmiaaGreatDoor
open Go.RowKit Go.Shelf Go.Sort
set_option linter.unusedSimpArgs false

theorem filter_take_yes {k : List UInt8 → Bool} {a : List (List UInt8)} {j : Nat} {x : List UInt8} (h : a[j]? = some x) (h2 : k x = true) : (a.take (j + 1)).filter k = (a.take j).filter k ++ [x] := by
  rw [List.take_add_one, h, List.filter_append]
  simp [h2]
theorem filter_take_no {k : List UInt8 → Bool} {a : List (List UInt8)} {j : Nat} {x : List UInt8} (h : a[j]? = some x) (h2 : k x = false) : (a.take (j + 1)).filter k = (a.take j).filter k := by
  rw [List.take_add_one, h, List.filter_append]
  simp [h2]
theorem set_step {ys F : List (List UInt8)} {i : Nat} {x : List UInt8} (hi : i < ys.length) (h : ys.take i = F) : (ys.set i x).take (i + 1) = F ++ [x] := by
  rw [List.take_add_one, List.getElem?_set_self hi, List.take_set_of_le (Nat.le_refl _), h]
  rfl
set_option maxRecDepth 100000 in
set_option maxHeartbeats 8000000 in
theorem delW_any (p : List UInt8) (a : List (List UInt8)) (ov : Value) (B Bx : Nat) (w : World) (hown : w.ownsRow B 9 1 ov a.length (a.map encStr)) (hBw : B ≤ w.heap.size) (hal : a.length ≤ 100000) (ha : ∀ x ∈ a, x.length ≤ 100000) (hp : p.length ≤ 100000) (hc : w.cell? ⟨Bx, 0, none⟩ = some (.string ⟨p.toArray⟩)) (hBx : Bx < B) :
    Calls Tryz.prog 34 #[ov, .func (.func 35) #[] #[.pointer (some ⟨Bx, 0, none⟩)]] w (RowS B (a.filter (matB p)) w ov.ownBlock) := by
  rcases hown.2 with ⟨rfl, h0'⟩ | ⟨g, cap, cur, rfl, hbase, hb, h1, h2, h3, h4⟩
  · have : a = [] := List.eq_nil_of_length_eq_zero h0'
    subst this
    refine (delG_none none 0 _ w).mono ?_
    rintro e w' ⟨rfl, rfl⟩
    exact ⟨_, rfl, World.ownsRow_nil _ _ _ _, World.grownBy.refl _ _⟩
  · have cI := indexW_any p a g cap B Bx w hown hal ha hp hc
    show Calls _ _ _ _ (RowS B (a.filter (matB p)) w (some g))
    obtain ⟨n, hn⟩ : ∃ n, a.length = n := ⟨_, rfl⟩
    rw [hn] at hown hal cI h1 h4 ⊢
    have hcap : cap ≤ 9223372036854775807 := by unfold maxLen at h2; omega
    have hgl := (Array.getElem?_eq_some_iff.1 hb).1
    have HOWN := Lib.hid hown
    have HN := Lib.hid hn
    have HA := Lib.hid ha
    have HC := Lib.hid hc
    have hcl : ∀ (W : World) (i : Nat) ty xs, i < n → W.ownsRow B 9 1 (.slice (some ⟨g, 0, none⟩) n cap) n xs → (Builtin.clear_ #[33] ty #[.slice (some ⟨g, i, none⟩) (n - i) (cap - i)]).run Tryz.prog W = .ok (.tuple #[]) (W.setCells g i (List.replicate (n - i) (.string ⟨#[]⟩))) := fun W i ty xs hi hr => by
      obtain ⟨r1, r2⟩ := hr
      rcases r2 with ⟨r2, _⟩ | ⟨g', cap', cur', hv, hbase', hh, k1, k2, k3, k4⟩
      · cases r2
      · cases hv
        refine Lib.run_clear_slice W _ 9 ty (.string ⟨#[]⟩) Tryz.underlying33 (fun _ => by kernel_rfl) rfl rfl g i (n - i) (cap - i) (by omega) (fun j hj => ?_) (fun j hj => ?_)
        · rw [Lib.cell_of_heap hh, Array.getElem?_eq_getElem (by omega)]; rfl
        · simp [World.frozen?, hh]
    have HCL := Lib.hid hcl
    clear hown hn ha hc hb h2 h3 h4 hcl
    go_enter Tryz.func34, Tryz.ntmps34
    go_upto_region 2 with (go_at_call 57; ((with_reducible refine cI.mono ?_); rintro e w1 ⟨z, rfl, hz, hb1⟩))
    have hrow1 := owns_same HOWN.out (fun _ _ hk _ => below_same hb1 hk)
    have hk1 : Kept (fun k => k = g) w w1 := kept_below hb1
    rcases hz with ⟨rfl, hall⟩ | ⟨i0, x0, rfl, hx0, hn0, ht0⟩
    · have hf : a.filter (matB p) = a := List.filter_eq_self.2 (List.all_eq_true.1 hall)
      have HR : Hid (w1.ownsRow B 9 1 (.slice (some ⟨g, 0, none⟩) n cap) (a.filter (matB p)).length ((a.filter (matB p)).map encStr)) := Lib.hid (by rw [hf, HN.out]; exact hrow1)
      clear hall hf hrow1
      go_wp2_with fail
      go_ret
      exact ⟨_, rfl, HR.out, kept_grownBy hk1⟩
    · have hi0n : i0 < n := by rw [← HN.out]; exact (List.getElem?_eq_some_iff.1 hx0).1
      have hf0 : (a.take (i0 + 1)).filter (matB p) = a.take i0 := by
        rw [filter_take_no hx0 hn0]
        exact List.filter_eq_self.2 (List.all_eq_true.1 ht0)
      have HF0 := Lib.hid hf0
      have hz1 : ¬ ((i0 : Int) = -1) := by omega
      have hz2 : ((i0 : Int) == -1) = false := by rw [beq_eq_false_iff_ne]; omega
      clear hx0 hn0 ht0 hf0
      go_wp2_with fail
      go_loopg [5, 6] (n - (i0 + 1)) (fun gk s5 s6 wr => ∃ (i j : Nat) (ys : List (List UInt8)), j + gk = n ∧ s5 = .int .i64 (i : Int) ∧ s6 = .int .i64 (j : Int) ∧ i < j ∧ j ≤ n ∧ Hid (ys.length = n) ∧ Hid (ys.take i = (a.take j).filter (matB p)) ∧ Hid (ys.drop j = a.drop j) ∧ Hid (wr.ownsRow B 9 1 (.slice (some ⟨g, 0, none⟩) n cap) n (ys.map encStr)) ∧ Hid (Kept (fun k => k = g) w wr))
      case atStart => exact ⟨i0, i0 + 1, a, by omega, rfl, by go_num, by omega, by omega, HN, Lib.hid HF0.out.symm, Lib.hid rfl, Lib.hid hrow1, Lib.hid hk1⟩
      case round =>
        clear hrow1 hk1
        obtain ⟨i, j, ys, hj, rfl, rfl, hij, hjn, HYL, HYT, HYD, HR, HK⟩ := hrel
        by_cases hlt : j < n
        · obtain ⟨g', rfl⟩ : ∃ g', gk = g' + 1 := ⟨gk - 1, by omega⟩
          obtain ⟨x, hx⟩ : ∃ x, a[j]? = some x := ⟨a[j]'(by rw [HN.out]; exact hlt), List.getElem?_eq_getElem _⟩
          have hyx : ys[j]? = some x := by
            have h1 : (ys.drop j)[0]? = (a.drop j)[0]? := by rw [HYD.out]
            simpa [hx] using h1
          have hdr : ∀ (zs : List (List UInt8)), zs.drop j = a.drop j → zs.drop (j + 1) = a.drop (j + 1) := fun zs hz => by
            have := congrArg (List.drop 1) hz
            rwa [List.drop_drop, List.drop_drop] at this
          have hcx : wr.cell? ⟨g, j, none⟩ = some (.string ⟨x.toArray⟩) := owns_cell HR.out (by rw [List.getElem?_map, hyx]; rfl)
          obtain ⟨oldv, hci⟩ : ∃ v, wr.cell? ⟨g, i, none⟩ = some v := ⟨_, owns_cell HR.out (List.getElem?_eq_getElem (by rw [List.length_map, HYL.out]; omega))⟩
          have hBxl : Bx < w.heap.size := Nat.lt_of_lt_of_le hBx hBw
          have hcp : wr.cell? ⟨Bx, 0, none⟩ = some (.string ⟨p.toArray⟩) := (World.cell?_of_block (w := w) (HK.out.block Bx hBxl (by show ¬ (Bx = g); omega))).trans HC.out
          have cL := list1_any p x Bx wr hcp hp (HA.out x (List.mem_of_getElem? hx))
          have hjz : (j : Int) < (n : Int) := by omega
          have hiz : (i : Int) < (n : Int) := by omega
          obtain ⟨b, hb⟩ : ∃ b, matB p x = b := ⟨_, rfl⟩
          rw [hb] at cL
          cases b with
          | true =>
            have HT : Hid ((ys.set i x).take (i + 1) = (a.take (j + 1)).filter (matB p)) := Lib.hid (by rw [filter_take_yes hx hb]; exact set_step (by rw [HYL.out]; omega) HYT.out)
            have HD : Hid ((ys.set i x).drop (j + 1) = a.drop (j + 1)) := Lib.hid (by rw [List.drop_set_of_lt (by omega)]; exact hdr ys HYD.out)
            have HL : Hid ((ys.set i x).length = n) := Lib.hid (by rw [List.length_set]; exact HYL.out)
            clear hx hyx hdr hb
            go_upto_region 9 with (go_at_call 35; ((with_reducible refine cL.mono ?_); rintro e w2 ⟨rfl, hb2⟩))
            have hr2 := owns_same HR.out (fun _ _ hk _ => below_same hb2 hk)
            have hk2 : Kept (fun k => k = g) w w2 := HK.out.next (hb2.mono HK.out.size)
            have hci2 := below_cell hb2 hci
            have hf2 : w2.frozen? ⟨g, i, none⟩ = false := by
              rcases hr2.2 with ⟨r2, _⟩ | ⟨g', cap', cur', hv, hbase', hh, _⟩
              · cases r2
              · cases hv; simp [World.frozen?, hh]
            have hr3 := owns_set hr2 (i := i) (by omega) (.string ⟨x.toArray⟩)
            have HR3 : Hid ((w2.setCell ⟨g, i, none⟩ (.string ⟨x.toArray⟩)).ownsRow B 9 1 (.slice (some ⟨g, 0, none⟩) n cap) n ((ys.set i x).map encStr)) := Lib.hid (by rw [List.map_set]; exact hr3)
            have HK3 : Hid (Kept (fun k => k = g) w (w2.setCell ⟨g, i, none⟩ (.string ⟨x.toArray⟩))) := Lib.hid (hk2.set (p := ⟨g, i, none⟩) (fun _ => rfl) _)
            clear hr2 hk2 hr3 hb2
            go_wp2_with fail
            go_roundg g'
            case measure => omega
            case rel => exact ⟨i + 1, j + 1, _, by omega, by go_num, by go_num, by omega, by omega, HL, HT, HD, HR3, HK3⟩
          | false =>
            have HT : Hid (ys.take i = (a.take (j + 1)).filter (matB p)) := Lib.hid (by rw [filter_take_no hx hb]; exact HYT.out)
            have HD : Hid (ys.drop (j + 1) = a.drop (j + 1)) := Lib.hid (hdr ys HYD.out)
            clear hx hyx hdr hb
            go_wp2_with (go_at_call 35; ((with_reducible refine cL.mono ?_); rintro e w2 ⟨rfl, hb2⟩))
            have hr2 := owns_same HR.out (fun _ _ hk _ => below_same hb2 hk)
            have hk2 : Kept (fun k => k = g) w w2 := HK.out.next (hb2.mono HK.out.size)
            go_roundg g'
            case measure => omega
            case rel => exact ⟨i, j + 1, ys, by omega, rfl, by go_num, by omega, by omega, HYL, HT, HD, Lib.hid hr2, Lib.hid hk2⟩
        · obtain rfl : j = n := by omega
          have hfin : ys.take i = a.filter (matB p) := by
            have := HYT.out
            rwa [show a.take j = a from List.take_of_length_le (by rw [HN.out]; exact Nat.le_refl _)] at this
          have hcl2 := fun ty => HCL.out wr i ty _ hij HR.out
          have hilen : (ys.take i).length = i := by rw [List.length_take, HYL.out]; omega
          have hpre : wr.ownsRow B 9 1 (.slice (some ⟨g, 0, none⟩) i cap) i ((ys.take i).map encStr) := owns_prefix (ys := (ys.drop i).map encStr) (by rw [← List.map_append, List.take_append_drop]; exact HR.out) (by rw [List.length_map, hilen])
          have hpre2 := owns_setCells (List.replicate (j - i) (.string ⟨#[]⟩)) i wr hpre (Nat.le_refl _)
          have hk2 := kept_setCells (S := fun k => k = g) rfl (List.replicate (j - i) (.string ⟨#[]⟩)) i w wr HK.out
          have HRES : Hid ((wr.setCells g i (List.replicate (j - i) (.string ⟨#[]⟩))).ownsRow B 9 1 (.slice (some ⟨g, 0, none⟩) i cap) (a.filter (matB p)).length ((a.filter (matB p)).map encStr)) := Lib.hid (by rw [← hfin, hilen]; exact hpre2)
          have HKR := Lib.hid hk2
          have hij2 : (i : Int) ≤ (j : Int) := by omega
          clear hfin hilen hpre hpre2 hk2
          go_wp2_with fail
          go_ret
          exact ⟨_, rfl, HRES.out, kept_grownBy HKR.out⟩
end Go.Proofs.YtghchmipoghmiaaGreatDoor
