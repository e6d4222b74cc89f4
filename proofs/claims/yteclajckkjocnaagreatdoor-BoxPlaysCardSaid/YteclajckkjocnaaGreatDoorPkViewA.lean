/- How somebody sees a box: the walk over see. Condition: none. -/
import Derived.Deep.AppendLies
import Derived.BigQuiet
import Derived.Deep.DrawnRows
import Derived.Test.YteclajckkjocnaaGreatDoorPkHeldS
import Derived.Test.YteclajckkjocnaaGreatDoorPkBoxL
namespace Go.Proofs.YteclajckkjocnaaGreatDoor
open Go.RowKit Go.Shelf Go.Sort
set_option linter.unusedSimpArgs false
/-- what a row of slices of texts reads as -/
def Reads (N : Nat) (w : World) (gs : List (Option Addr × Nat × Nat)) (fs : List (List (List UInt8))) : Prop := ∀ (i : Nat) (f : List (List UInt8)), fs[i]? = some f → ∃ g, gs[i]? = some g ∧ SRow w (encSl g) f ∧ SafeV N w (encSl g)
theorem Reads.kept {N : Nat} {w w' : World} {S : Nat → Prop} {gs : List (Option Addr × Nat × Nat)} {fs : List (List (List UInt8))} (h : Reads N w gs fs) (hk : Kept S w w') (hs : Spares N w S) : Reads N w' gs fs := fun i f hf => by
  obtain ⟨g, e1, e2, e3⟩ := h i f hf
  exact ⟨g, e1, e2.kept e3 hk hs, e3.kept hk hs⟩
theorem Reads.below {N : Nat} {w w' : World} {gs : List (Option Addr × Nat × Nat)} {fs : List (List (List UInt8))} (h : Reads N w gs fs) (hb : Below w.heap.size w w') : Reads N w' gs fs := h.kept (S := fun _ => False) (kept_below hb) (spares_none N w)
theorem Reads.snoc {N : Nat} {w : World} {gs : List (Option Addr × Nat × Nat)} {fs : List (List (List UInt8))} (h : Reads N w gs fs) (hl : gs.length = fs.length) {g : Option Addr × Nat × Nat} {f : List (List UInt8)} (h1 : SRow w (encSl g) f) (h2 : SafeV N w (encSl g)) : Reads N w (gs ++ [g]) (fs ++ [f]) := fun i f' hf => by
  rcases Nat.lt_or_ge i fs.length with hi | hi
  · rw [List.getElem?_append_left hi] at hf
    obtain ⟨g', e1, e2, e3⟩ := h i f' hf
    exact ⟨g', by rw [List.getElem?_append_left (by omega)]; exact e1, e2, e3⟩
  · rw [List.getElem?_append_right hi] at hf
    have hi0 : i = fs.length := by
      have := (List.getElem?_eq_some_iff.1 hf).1
      simp at this
      omega
    subst hi0
    rw [Nat.sub_self] at hf
    cases hf
    exact ⟨g, by rw [List.getElem?_append_right (by omega), hl, Nat.sub_self]; rfl, h1, h2⟩
theorem set2_0 {w : World} {U : Nat} {a b u : Value} {t : TypeId} (h : w.heap[U]? = some (.cells #[a, b] t (0, 0))) : (w.setCell ⟨U, 0, none⟩ u).heap[U]? = some (.cells #[u, b] t (0, 0)) := by
  simp only [World.setCell, Array.getElem?_modify, if_pos, h]
  simp
theorem set2_1 {w : World} {U : Nat} {a b u : Value} {t : TypeId} (h : w.heap[U]? = some (.cells #[a, b] t (0, 0))) : (w.setCell ⟨U, 1, none⟩ u).heap[U]? = some (.cells #[a, u] t (0, 0)) := by
  simp only [World.setCell, Array.getElem?_modify, if_pos, h]
  simp
theorem owns_setAny {w : World} {B : Nat} {e : TypeId} {sz : Nat} {x : Value} {n : Nat} {xs : List Value} {W i : Nat} {u : Value} {c : Array Value} {tW : TypeId} {fz : Nat × Nat} (h : w.ownsRow B e sz x n xs) (hW : w.heap[W]? = some (.cells c tW fz)) (he : tW ≠ e) : (w.setCell ⟨W, i, none⟩ u).ownsRow B e sz x n xs :=
  owns_same h (fun k o hk hor => setCell_same hk (fun hkW => by
    replace hkW : k = W := hkW
    rw [hkW, hW] at hk
    obtain ⟨c', fz', ho⟩ := hor
    rw [ho] at hk
    cases hk
    exact he rfl))
theorem spares_own {N : Nat} {w : World} {B : Nat} {e : TypeId} {sz : Nat} {v : Value} {n : Nat} {xs : List Value} (h : w.ownsRow B e sz v n xs) (hB : N ≤ B) (h1 : e ≠ 9) (h2 : e ≠ 51) : Spares N w (fun j => v.ownBlock = some j) := fun j _ e' => ⟨by have := (h.lt j e').1; omega, by
  intro hl
  rcases h.2 with ⟨rfl, _⟩ | ⟨g, cap, cur, rfl, _, hh, _⟩
  · cases e'
  · cases e'; exact not_lettered hh h1 h2 hl⟩
theorem spares_at {N : Nat} {w : World} {V : Nat} {c : Array Value} {T : TypeId} {fz : Nat × Nat} (h : w.heap[V]? = some (.cells c T fz)) (hN : N ≤ V) (h1 : T ≠ 9) (h2 : T ≠ 51) : Spares N w (fun j => j = V) := fun j _ e => by subst e; exact ⟨hN, not_lettered h h1 h2⟩
theorem Spares.or {N : Nat} {w : World} {S T : Nat → Prop} (h : Spares N w S) (k : Spares N w T) : Spares N w (fun j => S j ∨ T j) := fun j hj e => e.elim (h j hj) (k j hj)
attribute [local go_sem ↓] Go.wp_at_zero Go.wp_at_succ
set_option maxRecDepth 100000 in
set_option maxHeartbeats 8000000 in
theorem see_any (N V : Nat) (b : BoxP) (_vd _nx : Value) (lv a0 b0 : Value) (zs : List (Let × Value)) (w : World) (hV : w.heap[V]? = some (.cells #[a0, b0] 65 (0, 0))) (hN : N ≤ V) (hx : XRow N w lv zs) (hfl : ∀ z ∈ zs, z.1.flags.length ≤ 1000000) (hl : zs.length ≤ 1000000) :
    Calls Tryz.prog 21 #[.pointer (some ⟨V, 0, none⟩), .agg #[.int .i64 b.valid, .int .i64 b.next, lv]] w fun e w' => e = .returned (.tuple #[]) ∧ ∃ uv fv gs, w'.heap[V]? = some (.cells #[uv, fv] 65 (0, 0)) ∧ w'.ownsRow w.heap.size 3 1 uv zs.length ((zs.map (·.1.uid)).map (Value.int .i64)) ∧ w'.ownsRow w.heap.size 35 1 fv zs.length (gs.map encSl) ∧ Reads N w' gs (zs.map (·.1.flags)) ∧ Kept (fun k => k = V) w w' := by
  have hVl : V < w.heap.size := (Array.getElem?_eq_some_iff.1 hV).1
  have hsp0 : Spares N w (fun k => k = V) := fun k _ e => by subst e; exact ⟨hN, not_lettered hV (by decide) (by decide)⟩
  obtain ⟨hz, hsv, hsz⟩ := hx
  have hz' := hz
  obtain ⟨ao, cap, rfl, hcap, ⟨hcm, hnone⟩, hfls, hcell⟩ := hz'
  have y0 : Below w.heap.size w (w.alloc (.cells #[.int .i64 b.valid, .int .i64 b.next, .slice ao zs.length cap] 28)) := (Below.refl _ _).alloc (Nat.le_refl _) _
  have x0 := World.heap_alloc_new w (.cells #[.int .i64 b.valid, .int .i64 b.next, .slice ao zs.length cap] 28)
  obtain ⟨W0, hW0⟩ : ∃ W0, w.alloc (.cells #[.int .i64 b.valid, .int .i64 b.next, .slice ao zs.length cap] 28) = W0 := ⟨_, rfl⟩
  rw [hW0] at x0 y0
  have hV0 := (y0.block V hVl).trans hV
  have f0 : W0.frozen? ⟨V, 0, none⟩ = false := Lib.frozen_of_heap hV0 0
  have f1 : W0.frozen? ⟨V, 1, none⟩ = false := Lib.frozen_of_heap hV0 1
  have d0 := (two_cells hV0).1
  have d1 := (two_cells hV0).2
  have hne : w.heap.size ≠ V := by omega
  have k2 := (three_cells x0).2.2
  have hV1 := set2_1 (u := .slice none 0 0) (set2_0 (u := .slice none 0 0) hV0)
  have hK1 : Kept (fun k => k = V) w ((W0.setCell ⟨V, 0, none⟩ (.slice none 0 0)).setCell ⟨V, 1, none⟩ (.slice none 0 0)) := Kept.setB (Kept.setB (kept_below y0) _) _
  have HC := Lib.hid hcell
  have HF := Lib.hid hfls
  have HL := Lib.hid hfl
  have HV := Lib.hid hsz
  have HZ := Lib.hid hsv
  have HSP := Lib.hid hsp0
  have HK1 := Lib.hid hK1
  have HV1 := Lib.hid hV1
  have hcK : ∀ wr, Kept (fun k => k = V) w wr → ∀ (k : Nat) (z : Let × Value), zs[k]? = some z → ∃ p off xa xc, ao = some ⟨p, off, none⟩ ∧ z.2 = .slice xa z.1.flags.length xc ∧ wr.cell? ⟨p, off + k * 4, none⟩ = some (.int .i64 z.1.uid) ∧ wr.cell? ⟨p, off + k * 4 + 1, none⟩ = some (.slice xa z.1.flags.length xc) ∧ wr.cell? ⟨p, off + k * 4 + 2, none⟩ = some (.int .i64 z.1.day) ∧ wr.cell? ⟨p, off + k * 4 + 3, none⟩ = some (.string ⟨z.1.text.toArray⟩) ∧ Hid (SRow wr (.slice xa z.1.flags.length xc) z.1.flags) ∧ Hid (SafeV N wr (.slice xa z.1.flags.length xc)) := fun wr hk k z hzk => by
    have hzm := List.mem_of_getElem? hzk
    have h0 := hfls z hzm
    have h0' := h0
    obtain ⟨xa, xc, hz2, _⟩ := h0'
    have hq : ∀ i u, i < 4 → (cells1 z)[i]? = some u → ∃ p off, ao = some ⟨p, off, none⟩ ∧ wr.cell? ⟨p, off + k * 4 + i, none⟩ = some u := fun i u hi hu => by
      obtain ⟨p, off, e1, e2, e3⟩ := hcell (k * 4 + i) u (by rw [cellsL_get _ _ _ hi, hzk]; exact hu)
      refine ⟨p, off, e1, ?_⟩
      rw [Nat.add_assoc]
      subst e1
      exact (kept_cell hk hsp0 (hsv _ _ _ rfl (by have := (List.getElem?_eq_some_iff.1 hzk).1; omega)) _).trans e3
    obtain ⟨p, off, rfl, c0⟩ := hq 0 _ (by omega) rfl
    have hq2 : ∀ i u, i < 4 → (cells1 z)[i]? = some u → wr.cell? ⟨p, off + k * 4 + i, none⟩ = some u := fun i u hi hu => by
      obtain ⟨p', off', e1, e2⟩ := hq i u hi hu
      cases e1; exact e2
    refine ⟨p, off, xa, xc, rfl, hz2, c0, ?_, hq2 2 _ (by omega) rfl, hq2 3 _ (by omega) rfl, ?_, ?_⟩
    · rw [← hz2]; exact hq2 1 _ (by omega) rfl
    · rw [← hz2]; exact h0.kept (hsz z hzm) hk hsp0
    · rw [← hz2]; exact (hsz z hzm).kept hk hsp0
  have HCK := Lib.hid hcK
  have e0 : w.heap.size < W0.heap.size := (Array.getElem?_eq_some_iff.1 x0).1
  clear hcell hfls hfl hsz hsv hsp0 hK1 hcK hz hcap hnone hV hV0 x0 hV1
  go_enter Tryz.func21, Tryz.ntmps21
  go_wp2_with fail
  go_loopg [15] zs.length (fun g s15 wr => ∃ (k : Nat) (uv fv : Value) (gs : List (Option Addr × Nat × Nat)), k + g = zs.length ∧ s15 = .int .i64 (k : Int) ∧ wr.heap[V]? = some (.cells #[uv, fv] 65 (0, 0)) ∧ wr.ownsRow w.heap.size 3 1 uv k (((zs.take k).map (·.1.uid)).map (Value.int .i64)) ∧ wr.ownsRow w.heap.size 35 1 fv k (gs.map encSl) ∧ Hid (Reads N wr gs ((zs.take k).map (·.1.flags))) ∧ Hid (Kept (fun k => k = V) w wr))
  case atStart => exact ⟨0, _, _, [], by omega, rfl, HV1.out, World.ownsRow_nil _ _ _ _, World.ownsRow_nil _ _ _ _, fun i f h => by simp at h, HK1.out⟩
  case round =>
    obtain ⟨k, uv, fv, gs, hk, rfl, hVr, hou, hof, HR, HKr⟩ := hrel
    have hws : w.heap.size ≤ wr.heap.size := HKr.out.size
    by_cases hlt : k < zs.length
    · obtain ⟨g', rfl⟩ : ∃ g', gk = g' + 1 := ⟨gk - 1, by omega⟩
      obtain ⟨z, hzk⟩ : ∃ z, zs[k]? = some z := ⟨zs[k], List.getElem?_eq_getElem hlt⟩
      obtain ⟨p, off, xa, xc, rfl, hz2, c0, c1, c2, c3, hS, hSf⟩ := HCK.out wr HKr.out k z hzk
      have hfl2 := HL.out z (List.mem_of_getElem? hzk)
      have hkz : (k : Int) < (zs.length : Int) := by omega
      have HZK := Lib.hid hzk
      have HTK : Hid (zs.take (k + 1) = zs.take k ++ [z]) := by show _ = _; rw [List.take_add_one, hzk]; rfl
      have yl : Below wr.heap.size wr (wr.alloc (.cells #[.int .i64 z.1.uid, .slice xa z.1.flags.length xc, .int .i64 z.1.day, .string ⟨z.1.text.toArray⟩] 51)) := (Below.refl _ _).alloc (Nat.le_refl _) _
      have xl := World.heap_alloc_new wr (.cells #[.int .i64 z.1.uid, .slice xa z.1.flags.length xc, .int .i64 z.1.day, .string ⟨z.1.text.toArray⟩] 51)
      obtain ⟨wl, hwl⟩ : ∃ wl, wr.alloc (.cells #[.int .i64 z.1.uid, .slice xa z.1.flags.length xc, .int .i64 z.1.day, .string ⟨z.1.text.toArray⟩] 51) = wl := ⟨_, rfl⟩
      have hsl : wl.heap.size = wr.heap.size + 1 := by rw [← hwl, alloc_size]
      have HSL := Lib.hid hsl
      clear hzk hz2 hsl
      go_upto_region 5 with fail
      clear c0 c1 c2 c3
      rw [hwl] at xl yl
      have HWL := Lib.hid hwl
      clear hwl
      have HVR := Lib.hid hVr
      have hV : wl.heap[V]? = some (.cells #[uv, fv] 65 (0, 0)) := (yl.block V (Array.getElem?_eq_some_iff.1 hVr).1).trans hVr
      have hbase : w.heap.size ≤ wl.heap.size := by rw [HSL.out]; omega
      obtain ⟨Lb, hLb⟩ : ∃ Lb, wr.heap.size = Lb := ⟨_, rfl⟩
      have hou := HWL.out ▸ hou.alloc (.cells #[.int .i64 z.1.uid, .slice xa z.1.flags.length xc, .int .i64 z.1.day, .string ⟨z.1.text.toArray⟩] 51)
      have hof := HWL.out ▸ hof.alloc (.cells #[.int .i64 z.1.uid, .slice xa z.1.flags.length xc, .int .i64 z.1.day, .string ⟨z.1.text.toArray⟩] 51)
      have HFS : Hid (SRow wl (.slice xa z.1.flags.length xc) z.1.flags) := hS.out.below yl
      have hSf2 : Hid (SafeV N wl (.slice xa z.1.flags.length xc)) := hSf.out.below yl
      rw [hLb] at xl
      have hL := xl
      obtain ⟨uid, huid⟩ : ∃ uid, z.1.uid = uid := ⟨_, rfl⟩
      obtain ⟨fn, hfn⟩ : ∃ fn, z.1.flags.length = fn := ⟨_, rfl⟩
      obtain ⟨f, hf⟩ : ∃ f, z.1.flags = f := ⟨_, rfl⟩
      obtain ⟨ldy, hldy⟩ : ∃ v, Value.int .i64 z.1.day = v := ⟨_, rfl⟩
      obtain ⟨ltx, hltx⟩ : ∃ v, Value.string ⟨z.1.text.toArray⟩ = v := ⟨_, rfl⟩
      obtain ⟨us, hus⟩ : ∃ us, ((zs.take k).map (·.1.uid)).map (Value.int .i64) = us := ⟨_, rfl⟩
      obtain ⟨m, hm⟩ : ∃ m, k = m := ⟨_, rfl⟩
      have hml : m ≤ 1000000 := by omega
      rw [hus, hm] at hou
      rw [hm] at hof
      rw [hfn, huid, hldy, hltx] at hL
      rw [hfn, hf] at HFS
      rw [hfn] at hSf2
      rw [hf] at hfl2
      have hfl := hfl2
      have hNb : N ≤ w.heap.size := by omega
      have hkeep : ∀ wd w2, Below wl.heap.size wl wd → SRow wd (.slice xa fn xc) f → Kept (fun j => uv.ownBlock = some j) wd w2 → SRow w2 (.slice xa fn xc) f := by
        intro wd w2 k1 h1 k2
        have how := owns_same hou (fun j o hj _ => below_same k1 hj)
        refine h1.kept (hSf2.out.below k1) k2 (fun j hj e => ⟨by have := (how.lt j e).1; omega, ?_⟩)
        intro hl
        rcases how.2 with ⟨rfl, _⟩ | ⟨g, cap, cur, rfl, _, hh, _⟩
        · cases e
        · cases e; exact not_lettered hh (by decide) (by decide) hl
      rw [hLb, huid, hfn, hldy, hltx]
      have HEQ := Lib.hid (show wr.heap.size = Lb ∧ z.1.uid = uid ∧ z.1.flags.length = fn ∧ z.1.flags = f ∧ ((zs.take k).map (·.1.uid)).map (Value.int .i64) = us ∧ k = m from ⟨hLb, huid, hfn, hf, hus, hm⟩)
      clear hLb huid hfn hf hldy hltx hus hm xl hfl2 hVr hS hSf
      have hVd : wl.drew.heap[V]? = some (.cells #[uv, fv] 65 (0, 0)) := hV
      have hLd : wl.drew.heap[Lb]? = some (.cells #[.int .i64 uid, .slice xa fn xc, ldy, ltx] 51 (0, 0)) := hL
      have houd := hou.drew
      have hofd := hof.drew
      have hFd : Hid (SRow wl.drew (.slice xa fn xc) f) := HFS.out.below ((Below.refl _ wl).drew)
      have hbd : w.heap.size ≤ wl.drew.heap.size := hbase
      have hS0 : (fun W : World => W.cell? ⟨Lb, 0, none⟩ = some (.int .i64 uid) ∧ W.cell? ⟨Lb, 1, none⟩ = some (.slice xa fn xc)) wl.drew := ⟨(four_cells hLd).1, (four_cells hLd).2.1⟩
      have hS1 : (fun W : World => W.cell? ⟨V, 0, none⟩ = some uv ∧ W.cell? ⟨V, 1, none⟩ = some fv) wl.drew := ⟨(two_cells hVd).1, (two_cells hVd).2⟩
      obtain ⟨i1, hi1, hz10, hz11, hz12⟩ := info_parts infoRowI
      obtain ⟨i2, hi2, hz20, hz21, hz22⟩ := info_parts infoRowS
      have kd : Below wl.heap.size wl wl.drew := (Below.refl _ wl).drew
      refine until_start (S := fun W => W.cell? ⟨V, 0, none⟩ = some uv ∧ W.cell? ⟨V, 1, none⟩ = some fv) (S0 := fun W => W.cell? ⟨Lb, 0, none⟩ = some (.int .i64 uid) ∧ W.cell? ⟨Lb, 1, none⟩ = some (.slice xa fn xc)) (t := 21) (by kernel_rfl) ?_
      generalize wl.drew = wd at *
      refine until_take0 (i := 0) (v := ?v0) rfl (by kernel_rfl) (by kernel_rfl) (by kernel_rfl) (by rfl) (fun _ _ _ h => h) (Or.inl ⟨by rfl, ?y0⟩) hS0 (fun _ => hS1) ?r0
      case y0 => (intro W hSw; (try dsimp only at hSw); go_simp; try with_reducible rfl)
      try simp only [Act.put, List.setIfInBounds_toArray, List.set_cons_zero, List.set_cons_succ]
      refine until_take0 (i := 1) (v := ?v1) rfl (by kernel_rfl) (by kernel_rfl) (by kernel_rfl) (by rfl) (fun _ _ _ h => h) (Or.inl ⟨by rfl, ?y1⟩) hS0 (fun _ => hS1) ?r1
      case y1 => (intro W hSw; (try dsimp only at hSw); go_simp; try with_reducible rfl)
      try simp only [Act.put, List.setIfInBounds_toArray, List.set_cons_zero, List.set_cons_succ]
      refine until_take0 (i := 2) (v := ?v2) rfl (by kernel_rfl) (by kernel_rfl) (by kernel_rfl) (by rfl) (fun _ _ _ h => h) (Or.inl ⟨by rfl, ?y2⟩) hS0 (fun _ => hS1) ?r2
      case y2 => (intro W hSw; (try dsimp only at hSw); go_simp; try with_reducible rfl)
      try simp only [Act.put, List.setIfInBounds_toArray, List.set_cons_zero, List.set_cons_succ]
      refine until_take0 (i := 3) (v := ?v3) rfl (by kernel_rfl) (by kernel_rfl) (by kernel_rfl) (by rfl) (fun _ _ _ h => h) (Or.inl ⟨by rfl, ?y3⟩) hS0 (fun _ => hS1) ?r3
      case y3 => (intro W hSw; (try dsimp only at hSw); go_simp; try with_reducible rfl)
      try simp only [Act.put, List.setIfInBounds_toArray, List.set_cons_zero, List.set_cons_succ]
      refine until_take0 (i := 4) (v := ?v4) rfl (by kernel_rfl) (by kernel_rfl) (by kernel_rfl) (by rfl) (fun _ _ _ h => h) (Or.inl ⟨by rfl, ?y4⟩) hS0 (fun _ => hS1) ?r4
      case y4 => (intro W hSw; (try dsimp only at hSw); go_simp; try with_reducible rfl)
      try simp only [Act.put, List.setIfInBounds_toArray, List.set_cons_zero, List.set_cons_succ]
      refine until_take (i := 5) (v := ?v5) rfl (by kernel_rfl) (by kernel_rfl) (by kernel_rfl) (by kernel_rfl) (fun _ _ _ h => h) (Or.inl ⟨by rfl, ?y5⟩) hS0 hS1 ?r5
      case y5 => (intro W hSw; (try dsimp only at hSw); go_simp; try with_reducible rfl)
      try simp only [Act.put, List.setIfInBounds_toArray, List.set_cons_zero, List.set_cons_succ]
      refine until_take0 (i := 6) (v := ?v6) rfl (by kernel_rfl) (by kernel_rfl) (by kernel_rfl) (by rfl) (fun _ _ _ h => h) (Or.inl ⟨by rfl, ?y6⟩) hS0 (fun _ => hS1) ?r6
      case y6 => (intro W hSw; (try dsimp only at hSw); go_simp; try with_reducible rfl)
      try simp only [Act.put, List.setIfInBounds_toArray, List.set_cons_zero, List.set_cons_succ]
      refine until_take0 (i := 7) (v := ?v7) rfl (by kernel_rfl) (by kernel_rfl) (by kernel_rfl) (by rfl) (fun _ _ _ h => h) (Or.inl ⟨by rfl, ?y7⟩) hS0 (fun _ => hS1) ?r7
      case y7 => (intro W hSw; (try dsimp only at hSw); go_simp; try with_reducible rfl)
      try simp only [Act.put, List.setIfInBounds_toArray, List.set_cons_zero, List.set_cons_succ]
      refine until_take0 (i := 10) (v := ?v10) rfl (by kernel_rfl) (by kernel_rfl) (by kernel_rfl) (by rfl) (fun _ _ _ h => h) (Or.inl ⟨by rfl, ?y10⟩) hS0 (fun _ => hS1) ?r10
      case y10 => (intro W hSw; (try dsimp only at hSw); go_simp; try with_reducible rfl)
      try simp only [Act.put, List.setIfInBounds_toArray, List.set_cons_zero, List.set_cons_succ]
      refine until_take0 (i := 11) (v := ?v11) rfl (by kernel_rfl) (by kernel_rfl) (by kernel_rfl) (by rfl) (fun _ _ _ h => h) (Or.inl ⟨by rfl, ?y11⟩) hS0 (fun _ => hS1) ?r11
      case y11 => (intro W hSw; (try dsimp only at hSw); go_simp; try with_reducible rfl)
      try simp only [Act.put, List.setIfInBounds_toArray, List.set_cons_zero, List.set_cons_succ]
      refine until_take0 (i := 12) (v := ?v12) rfl (by kernel_rfl) (by kernel_rfl) (by kernel_rfl) (by rfl) (fun _ _ _ h => h) (Or.inl ⟨by rfl, ?y12⟩) hS0 (fun _ => hS1) ?r12
      case y12 => (intro W hSw; (try dsimp only at hSw); go_simp; try with_reducible rfl)
      try simp only [Act.put, List.setIfInBounds_toArray, List.set_cons_zero, List.set_cons_succ]
      refine until_take (i := 13) (v := ?v13) rfl (by kernel_rfl) (by kernel_rfl) (by kernel_rfl) (by kernel_rfl) (fun _ _ _ h => h) (Or.inl ⟨by rfl, ?y13⟩) hS0 hS1 ?r13
      case y13 => (intro W hSw; (try dsimp only at hSw); go_simp; try with_reducible rfl)
      try simp only [Act.put, List.setIfInBounds_toArray, List.set_cons_zero, List.set_cons_succ]
      refine until_take0 (i := 14) (v := ?v14) rfl (by kernel_rfl) (by kernel_rfl) (by kernel_rfl) (by rfl) (fun _ _ _ h => h) (Or.inl ⟨by rfl, ?y14⟩) hS0 (fun _ => hS1) ?r14
      case y14 => (intro W hSw; (try dsimp only at hSw); go_simp; try with_reducible rfl)
      try simp only [Act.put, List.setIfInBounds_toArray, List.set_cons_zero, List.set_cons_succ]
      refine until_take0 (i := 15) (v := ?v15) rfl (by kernel_rfl) (by kernel_rfl) (by kernel_rfl) (by rfl) (fun _ _ _ h => h) (Or.inl ⟨by rfl, ?y15⟩) hS0 (fun _ => hS1) ?r15
      case y15 => (intro W hSw; (try dsimp only at hSw); go_simp; try with_reducible rfl)
      try simp only [Act.put, List.setIfInBounds_toArray, List.set_cons_zero, List.set_cons_succ]
      have xN1 := World.heap_alloc_new wd (.cells #[.int .i64 uid] 3)
      have hN1 : ∀ (j : Nat) (u : Value), [Value.int .i64 uid][j]? = some u → (wd.alloc (.cells #[.int .i64 uid] 3)).cell? ((⟨wd.heap.size, 0, none⟩ : Addr).add j) = some u := World.news_of_block xN1
      have HN1 := Lib.hid hN1
      have hVa := alloc_at (o := .cells #[.int .i64 uid] 3) hVd
      have hLa := alloc_at (o := .cells #[.int .i64 uid] 3) hLd
      have houa := houd.alloc (.cells #[.int .i64 uid] 3)
      have hsa := alloc_size wd (.cells #[.int .i64 uid] 3)
      have hba : w.heap.size ≤ (wd.alloc (.cells #[.int .i64 uid] 3)).heap.size := by rw [hsa]; omega
      have HSA := Lib.hid hsa
      have HOUA := Lib.hid houa
      have HOUD := Lib.hid houd
      have HOFD := Lib.hid hofd
      have HVD := Lib.hid hVd
      have HLD := Lib.hid hLd
      have HVA := Lib.hid hVa
      have HLA := Lib.hid hLa
      clear hsa houa hofd hVd hLd hVa hLa xN1 hN1 hS0 hS1 houd
      refine until_step (i := 8) (by kernel_rfl) rfl (fun K hK => ?_)
      go_simp
      refine hK.out _ _ ⟨(four_cells HLA.out).1, (four_cells HLA.out).2.1⟩ (fun _ _ => ⟨(two_cells HVA.out).1, (two_cells HVA.out).2⟩) ?_
      clear hK K
      try simp only [Act.put, List.setIfInBounds_toArray, List.set_cons_zero, List.set_cons_succ]
      refine until_step (i := 9) (by kernel_rfl) rfl (fun K hK => ?_)
      refine step_append_lies _ (by rfl) (.tmp 24) (.tmp 27) 46 (by rfl) w.heap.size 3 i1 _ 1 8 Tryz.underlying46 hi1 hz10 hz11 hz12 (by rfl) (by omega) uv m us (by rfl) HOUA.out ⟨wd.heap.size, 0, none⟩ 1 1 [.int .i64 uid] (by rfl) (by rfl) HN1.out (by intro u hu; obtain rfl := List.mem_singleton.1 hu; rfl) (by omega) (by unfold maxLen; omega) (by omega) hba (wd.heap.size + 1) HSA.out ?_
      intro p1 q1 w2 ho1 hg1 hp1 hp1l
      have hV2 := app_keeps HVD.out (by intro c fz h; cases h) HOUD.out hg1
      have hL2 := app_keeps HLD.out (by intro c fz h; cases h) HOUD.out hg1
      have hof2 := owns_app HOFD.out HOUD.out hg1 (by decide)
      have HP1 := Lib.hid hp1
      have kd2 : Kept (fun j => uv.ownBlock = some j) wd w2 := ((Kept.refl _ wd).alloc _).trans ((kept_grown hg1).mono (fun j _ h => h))
      have hg1s := hg1.size
      rw [HSA.out] at hg1s
      have hF2 : Hid (SRow w2 (.slice xa fn xc) f) := hkeep wd w2 kd hFd.out kd2
      have HV2 := Lib.hid hV2; have HL2 := Lib.hid hL2; have HOF2 := Lib.hid hof2; have HO1 := Lib.hid ho1; have HK2 := Lib.hid kd2
      clear hV2 hL2 hof2 ho1 hg1 hp1 kd2 HN1 HOUA HVA HLA hba
      refine hK.out _ _ ⟨(four_cells HL2.out).1, (four_cells HL2.out).2.1⟩ (fun _ _ => ⟨(two_cells HV2.out).1, (two_cells HV2.out).2⟩) ?_
      clear hK K
      try simp only [Act.put, List.setIfInBounds_toArray, List.set_cons_zero, List.set_cons_succ]
      refine until_step (i := 16) (by kernel_rfl) rfl (fun K hK => ?_)
      go_simp
      refine (clone_any _ f w2 hF2.out hfl).mono ?_
      rintro e w3 ⟨r, rfl, hor, h3⟩
      obtain ⟨ra, rc, rfl⟩ := owns_val hor
      have hV3 := below_same h3 HV2.out
      have hL3 := below_same h3 HL2.out
      have hof3 := owns_same HOF2.out (fun j o hj _ => below_same h3 hj)
      have ho3 := owns_same HO1.out (fun j o hj _ => below_same h3 hj)
      have hr3 := srow_owns hor
      have hrs := safe_tag (N := N) (stag_owns hor)
      have HV3 := Lib.hid hV3; have HL3 := Lib.hid hL3; have HOF3 := Lib.hid hof3; have HO3 := Lib.hid ho3; have HR3 := Lib.hid hr3; have HRS := Lib.hid hrs
      clear hV3 hL3 hof3 ho3 hr3 hrs hor HV2 HL2 HOF2 HO1
      go_wp2_with fail
      refine hK.out _ _ ⟨(four_cells HL3.out).1, (four_cells HL3.out).2.1⟩ (fun _ _ => ⟨(two_cells HV3.out).1, (two_cells HV3.out).2⟩) ?_
      clear hK K
      try simp only [Act.put, List.setIfInBounds_toArray, List.set_cons_zero, List.set_cons_succ]
      have hVa := alloc_at (o := .cells #[.slice ra f.length rc] 35) HV3.out
      have hLa := alloc_at (o := .cells #[.slice ra f.length rc] 35) HL3.out
      have hofa := HOF3.out.alloc (.cells #[.slice ra f.length rc] 35)
      have hsa := alloc_size w3 (.cells #[.slice ra f.length rc] 35)
      have h3s := h3.size
      have hba : w.heap.size ≤ (w3.alloc (.cells #[.slice ra f.length rc] 35)).heap.size := by rw [hsa]; omega
      have hN2 : ∀ (j : Nat) (u : Value), [Value.slice ra f.length rc][j]? = some u → (w3.alloc (.cells #[.slice ra f.length rc] 35)).cell? ((⟨w3.heap.size, 0, none⟩ : Addr).add j) = some u := World.news_of_block (World.heap_alloc_new w3 (.cells #[.slice ra f.length rc] 35))
      have HSA3 := Lib.hid hsa; have HOFA := Lib.hid hofa; have HVA := Lib.hid hVa; have HLA := Lib.hid hLa; have HN2 := Lib.hid hN2
      clear hsa hofa hVa hLa hN2
      refine until_step (i := 17) (by kernel_rfl) rfl (fun K hK => ?_)
      go_simp
      refine hK.out _ _ ⟨(four_cells HLA.out).1, (four_cells HLA.out).2.1⟩ (fun _ _ => ⟨(two_cells HVA.out).1, (two_cells HVA.out).2⟩) ?_
      clear hK K
      try simp only [Act.put, List.setIfInBounds_toArray, List.set_cons_zero, List.set_cons_succ]
      refine until_step (i := 18) (by kernel_rfl) rfl (fun K hK => ?_)
      refine step_append_lies _ (by rfl) (.tmp 32) (.tmp 36) 63 (by rfl) w.heap.size 35 i2 _ 1 24 Tryz.underlying63 hi2 hz20 hz21 hz22 (by rfl) (by omega) fv m (gs.map encSl) (by rfl) HOFA.out ⟨w3.heap.size, 0, none⟩ 1 1 [.slice ra f.length rc] (by rfl) (by rfl) HN2.out (by intro u hu; obtain rfl := List.mem_singleton.1 hu; rfl) (by omega) (by unfold maxLen; omega) (by omega) hba (w3.heap.size + 1) HSA3.out ?_
      intro p2 q2 w4 ho2 hg2 hp2 hp2l
      have hV4 := app_keeps HV3.out (by intro c fz h; cases h) HOF3.out hg2
      have hL4 := app_keeps HL3.out (by intro c fz h; cases h) HOF3.out hg2
      have ho14 := owns_app HO3.out HOF3.out hg2 (by decide)
      have HP2 := Lib.hid hp2
      have hg2s := hg2.size
      rw [HSA3.out] at hg2s
      have kd4 : Kept (fun j => fv.ownBlock = some j) w3 w4 := ((Kept.refl _ w3).alloc _).trans ((kept_grown hg2).mono (fun j _ h => h))
      have hrs4 : Hid (SRow w4 (.slice ra f.length rc) f ∧ SafeV N w4 (.slice ra f.length rc)) := by
        have hsp : Spares N w3 (fun j => fv.ownBlock = some j) := fun j hj e => ⟨by have := (HOF3.out.lt j e).1; omega, by
          intro hl
          rcases HOF3.out.2 with ⟨rfl, _⟩ | ⟨g, cap, cur, rfl, _, hh, _⟩
          · cases e
          · cases e; exact not_lettered hh (by decide) (by decide) hl⟩
        exact ⟨HR3.out.kept HRS.out kd4 hsp, HRS.out.kept kd4 hsp⟩
      have k24 : Kept (fun j => fv.ownBlock = some j) w2 w4 := (kept_below h3).trans kd4
      have f0 : w4.frozen? ⟨V, 0, none⟩ = false := Lib.frozen_of_heap hV4 0
      have f1 : w4.frozen? ⟨V, 1, none⟩ = false := Lib.frozen_of_heap hV4 1
      have d0 := (two_cells hV4).1
      have d1 := (two_cells hV4).2
      have hneL : V ≠ Lb := ne_of_obj hV4 hL4 (by intro h; cases h)
      have HV4 := Lib.hid hV4; have HL4 := Lib.hid hL4; have HO14 := Lib.hid ho14; have HO2 := Lib.hid ho2; have HK24 := Lib.hid k24
      clear hV4 hL4 ho14 ho2 hg2 hp2 kd4 k24 HOFA HVA HLA HV3 HL3 HOF3 HO3 HN2
      refine hK.out _ _ ⟨(four_cells HL4.out).1, (four_cells HL4.out).2.1⟩ (fun _ _ => ⟨(two_cells HV4.out).1, (two_cells HV4.out).2⟩) ?_
      clear hK K
      try simp only [Act.put, List.setIfInBounds_toArray, List.set_cons_zero, List.set_cons_succ]
      refine until_step (i := 19) (by kernel_rfl) rfl (fun K hK => ?_)
      go_simp
      refine hK.out _ _ ⟨(four_cells HL4.out).1, (four_cells HL4.out).2.1⟩ (fun _ _ => ⟨(two_cells HV4.out).1, (two_cells HV4.out).2⟩) ?_
      clear hK K
      try simp only [Act.put, List.setIfInBounds_toArray, List.set_cons_zero, List.set_cons_succ]
      refine until_step (i := 20) (by kernel_rfl) rfl (fun K hK => ?_)
      go_simp
      refine hK.out _ _ ⟨(four_cells HL4.out).1, (four_cells HL4.out).2.1⟩ (fun _ _ => ⟨(two_cells HV4.out).1, (two_cells HV4.out).2⟩) ?_
      clear hK K
      try simp only [Act.put, List.setIfInBounds_toArray, List.set_cons_zero, List.set_cons_succ]
      have hL5 := setCell_same (u := .slice (some ⟨p1, 0, none⟩) (m + 1) q1) (a := ⟨V, 0, none⟩) HL4.out (fun h => hneL h.symm)
      have hV5 := set2_0 (u := .slice (some ⟨p1, 0, none⟩) (m + 1) q1) HV4.out
      have HL5 := Lib.hid hL5; have HV5 := Lib.hid hV5
      clear hL5 hV5
      refine until_step (i := 21) (by kernel_rfl) rfl (fun K hK => ?_)
      go_simp
      refine hK.out _ _ ⟨(four_cells HL5.out).1, (four_cells HL5.out).2.1⟩ (fun h _ => absurd rfl h) ?_
      clear hK K
      try simp only [Act.put, List.setIfInBounds_toArray, List.set_cons_zero, List.set_cons_succ]
      refine until_step (i := 22) (by kernel_rfl) rfl (fun K hK => ?_)
      go_simp
      refine hK.out _ _ ⟨(four_cells HL5.out).1, (four_cells HL5.out).2.1⟩ (fun _ h => absurd h (by decide)) ?_
      clear hK K
      try simp only [Act.put, List.setIfInBounds_toArray, List.set_cons_zero, List.set_cons_succ]
      refine until_step (i := 23) (by kernel_rfl) rfl (fun K hK => ?_)
      go_simp
      refine hK.out _ _ ⟨(four_cells HL5.out).1, (four_cells HL5.out).2.1⟩ (fun _ h => absurd h (by decide)) ?_
      clear hK K
      try simp only [Act.put, List.setIfInBounds_toArray, List.set_cons_zero, List.set_cons_succ]
      have hL6 := setCell_same (u := .slice (some ⟨p2, 0, none⟩) (m + 1) q2) (a := ⟨V, 1, none⟩) HL5.out (fun h => hneL h.symm)
      have HL6 := Lib.hid hL6
      clear hL6
      refine until_step (i := 24) (by kernel_rfl) rfl (fun K hK => ?_)
      go_simp
      refine hK.out _ _ ⟨(four_cells HL6.out).1, (four_cells HL6.out).2.1⟩ (fun _ h => absurd h (by decide)) ?_
      clear hK K
      try simp only [Act.put, List.setIfInBounds_toArray, List.set_cons_zero, List.set_cons_succ]
      refine until_done (by kernel_rfl) ?_ _
      obtain ⟨hLb, huid, hfn, hf, hus, hm⟩ := HEQ.out
      have kset : Kept (fun j => j = V) w4 ((w4.setCell ⟨V, 0, none⟩ (.slice (some ⟨p1, 0, none⟩) (m + 1) q1)).setCell ⟨V, 1, none⟩ (.slice (some ⟨p2, 0, none⟩) (m + 1) q2)) := Kept.setB (Kept.setB (Kept.refl _ w4) _) _
      have hKall : Kept (fun j => j = V ∨ uv.ownBlock = some j ∨ fv.ownBlock = some j) wl ((w4.setCell ⟨V, 0, none⟩ (.slice (some ⟨p1, 0, none⟩) (m + 1) q1)).setCell ⟨V, 1, none⟩ (.slice (some ⟨p2, 0, none⟩) (m + 1) q2)) :=
        (((kept_below kd).trans (HK2.out.mono (fun _ _ h => Or.inr (Or.inl h)))).trans (HK24.out.mono (fun _ _ h => Or.inr (Or.inr h)))).trans (kset.mono (fun _ _ h => Or.inl h))
      have hspAll : Spares N wl (fun j => j = V ∨ uv.ownBlock = some j ∨ fv.ownBlock = some j) := (spares_at hV hN (by decide) (by decide)).or ((spares_own hou hNb (by decide) (by decide)).or (spares_own hof hNb (by decide) (by decide)))
      have hsp4 : Spares N w4 (fun j => j = V) := spares_at HV4.out hN (by decide) (by decide)
      have hnew : Kept (fun j => j = V) w ((w4.setCell ⟨V, 0, none⟩ (.slice (some ⟨p1, 0, none⟩) (m + 1) q1)).setCell ⟨V, 1, none⟩ (.slice (some ⟨p2, 0, none⟩) (m + 1) q2)) := by
        have h1 : Kept (fun j => j = V) w wl := HKr.out.trans (kept_below yl)
        refine ⟨hKall.os.trans h1.os, hKall.tape.trans h1.tape, hKall.output.trans h1.output, Nat.le_trans h1.size hKall.size, fun j hj hs => (hKall.block j (Nat.lt_of_lt_of_le hj h1.size) ?_).trans (h1.block j hj hs)⟩
        rintro (h | h | h)
        · exact hs h
        · have := (hou.lt j h).1; omega
        · have := (hof.lt j h).1; omega
      have hR6 := (HR.out.below yl).kept hKall hspAll
      have ho6 := owns_setAny (u := .slice (some ⟨p2, 0, none⟩) (m + 1) q2) (i := 1) (owns_setAny (u := .slice (some ⟨p1, 0, none⟩) (m + 1) q1) (i := 0) HO14.out HV4.out (by decide)) HV5.out (by decide)
      have hf6 := owns_setAny (u := .slice (some ⟨p2, 0, none⟩) (m + 1) q2) (i := 1) (owns_setAny (u := .slice (some ⟨p1, 0, none⟩) (m + 1) q1) (i := 0) HO2.out HV4.out (by decide)) HV5.out (by decide)
      have hr6 := hrs4.out.1.kept hrs4.out.2 kset hsp4
      have hs6 := hrs4.out.2.kept kset hsp4
      have hgl : gs.length = k := by have := hof.1; simp at this; omega
      have hRn := hR6.snoc (by simp; omega) (g := (ra, f.length, rc)) (f := f) hr6 hs6
      have HA := Lib.hid ho6; have HB := Lib.hid hf6; have HRN := Lib.hid hRn; have HNW := Lib.hid hnew; have HV6 := Lib.hid (set2_1 (u := .slice (some ⟨p2, 0, none⟩) (m + 1) q2) HV5.out)
      clear ho6 hf6 hRn hnew hLb huid hfn hf hus hm kset hKall hspAll hsp4 hR6 hr6 hs6 hrs4 hgl
      go_wp2_with fail
      go_roundg g'
      case measure => omega
      case rel =>
        obtain ⟨hLb, huid, hfn, hf, hus, hm⟩ := HEQ.out
        subst hm
        refine ⟨k + 1, _, _, gs ++ [(ra, f.length, rc)], by omega, by go_num, HV6.out, ?_, ?_, ?_, HNW.out⟩
        · rw [HTK.out, List.map_append, List.map_append, hus]; rw [List.map_cons, List.map_nil, huid]; exact HA.out
        · rw [List.map_append]; exact HB.out
        · rw [HTK.out, List.map_append, List.map_cons, List.map_nil, hf]; exact HRN.out
    · obtain rfl : k = zs.length := by omega
      rw [List.take_length] at hou HR
      have HA := Lib.hid hou; have HB := Lib.hid hof; have HVR := Lib.hid hVr
      clear hou hof hVr
      go_wp2_with fail
      go_end0
      refine ⟨rfl, uv, fv, gs, HVR.out, ?_, HB.out, ?_, HKr.out⟩
      · exact HA.out
      · exact HR.out
end Go.Proofs.YteclajckkjocnaaGreatDoor
