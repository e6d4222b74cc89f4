/- How somebody sees a box: the state of Look's walk, and what each write leaves of it; the walk over Open. Condition: none. How somebody sees a box: Look's state with its two rows of news, and what each write leaves of it. Condition: none. -/
import Derived.Test.YteclajckkjocnaaGreatDoorPkPFollow
import Derived.Test.YteclajckkjocnaaGreatDoorPkViewA
namespace Go.Proofs.YteclajckkjocnaaGreatDoor
open Go.RowKit Go.Shelf Go.Sort
set_option linter.unusedSimpArgs false
/-- a row of news' cells -/
def cellsN : List (Int × Int × (Option Addr × Nat × Nat)) → List Value
  | [] => []
  | x :: r => [.int .i64 x.1, .int .i64 x.2.1, encSl x.2.2] ++ cellsN r
theorem cellsN_len : ∀ xs, (cellsN xs).length = xs.length * 3
  | [] => rfl
  | x :: r => by show ([_, _, _] ++ cellsN r).length = _; rw [List.length_append, cellsN_len r]; show 3 + _ = (r.length + 1) * 3; omega
theorem cellsN_app : ∀ (a b : List (Int × Int × (Option Addr × Nat × Nat))), cellsN (a ++ b) = cellsN a ++ cellsN b
  | [], b => rfl
  | x :: r, b => by show [_, _, _] ++ cellsN (r ++ b) = ([_, _, _] ++ cellsN r) ++ cellsN b; rw [cellsN_app r b, List.append_assoc]
theorem cellsN_one (xs : List (Int × Int × (Option Addr × Nat × Nat))) : ∀ u ∈ cellsN xs, u.oneCell' = true := by
  induction xs with
  | nil => intro u hu; cases hu
  | cons x r ih =>
    intro u hu
    rcases List.mem_append.1 (show u ∈ [_, _, _] ++ cellsN r from hu) with h | h
    · simp only [List.mem_cons, List.not_mem_nil, or_false] at h
      rcases h with rfl | rfl | rfl <;> rfl
    · exact ih u h
theorem news_info : (Tryz.prog.info? 103).map (fun i => (i.zero, i.size, i.bytes)) = some (some (.agg #[.int .i64 0, .int .i64 0, .slice none 0 0]), 3, 40) := by kernel_rfl
/-- what a row of news reads as -/
def ReadsN (N : Nat) (w : World) (vs : List (Int × Int × (Option Addr × Nat × Nat))) (ns : List Nw) : Prop := vs.length = ns.length ∧ ∀ (i : Nat) (x : Nw), ns[i]? = some x → ∃ v, vs[i]? = some v ∧ v.1 = x.kind ∧ v.2.1 = x.n ∧ SRow w (encSl v.2.2) x.fl ∧ SafeV N w (encSl v.2.2)
theorem ReadsN.kept {N : Nat} {w w' : World} {S : Nat → Prop} {vs : List (Int × Int × (Option Addr × Nat × Nat))} {ns : List Nw} (h : ReadsN N w vs ns) (hk : Kept S w w') (hs : Spares N w S) : ReadsN N w' vs ns := ⟨h.1, fun i x hx => by
  obtain ⟨v, e1, e2, e3, e4, e5⟩ := h.2 i x hx
  exact ⟨v, e1, e2, e3, e4.kept e5 hk hs, e5.kept hk hs⟩⟩
theorem ReadsN.below {N : Nat} {w w' : World} {vs : List (Int × Int × (Option Addr × Nat × Nat))} {ns : List Nw} (h : ReadsN N w vs ns) (hb : Below w.heap.size w w') : ReadsN N w' vs ns := h.kept (S := fun _ => False) (kept_below hb) (spares_none N w)
theorem ReadsN.nil (N : Nat) (w : World) : ReadsN N w [] [] := ⟨rfl, fun i x h => by simp at h⟩
theorem ReadsN.app {N : Nat} {w : World} {vs us : List (Int × Int × (Option Addr × Nat × Nat))} {ns ms : List Nw} (h : ReadsN N w vs ns) (k : ReadsN N w us ms) : ReadsN N w (vs ++ us) (ns ++ ms) := ⟨by rw [List.length_append, List.length_append, h.1, k.1], fun i x hx => by
  rcases Nat.lt_or_ge i ns.length with hi | hi
  · rw [List.getElem?_append_left hi] at hx
    obtain ⟨v, e1, e⟩ := h.2 i x hx
    exact ⟨v, by rw [List.getElem?_append_left (by rw [h.1]; exact hi)]; exact e1, e⟩
  · rw [List.getElem?_append_right hi] at hx
    obtain ⟨v, e1, e⟩ := k.2 _ x hx
    exact ⟨v, by rw [List.getElem?_append_right (by rw [h.1]; exact hi), h.1]; exact e1, e⟩⟩
theorem ReadsN.one {N : Nat} {w : World} {k n : Int} {g : Option Addr × Nat × Nat} {f : List (List UInt8)} (h1 : SRow w (encSl g) f) (h2 : SafeV N w (encSl g)) : ReadsN N w [(k, n, g)] [⟨k, n, f⟩] := ⟨rfl, fun i x hx => by
  match i, hx with
  | 0, hx => cases hx; exact ⟨_, rfl, rfl, rfl, h1, h2⟩
  | i + 1, hx => simp at hx⟩
theorem safe_nil (N : Nat) (w : World) : SafeV N w (.slice none 0 0) := fun a n c e _ => by cases e
/-- an append keeps whatever is no row of that element type -/
theorem grown_keeps {B : Nat} {w w' : World} {e : TypeId} {sz n : Nat} {xs : List Value} {v : Value} {o : Obj} {U : Nat} {x : Obj} (hU : w.heap[U]? = some x) (hx : ∀ c fz, x ≠ .cells c e fz) (hown : w.ownsRow B e sz v n xs) (hg : (w.alloc o).grownBy w' v.ownBlock) : w'.heap[U]? = some x := by
  have h1 : (w.alloc o).heap[U]? = some x := (Lib.alloc_old w o U (Array.getElem?_eq_some_iff.1 hU).1).trans hU
  rw [hg.block U (Array.getElem?_eq_some_iff.1 h1).1 ?_]
  · exact h1
  · intro hk
    rcases hown.2 with ⟨rfl, _⟩ | ⟨g, cap, cur, rfl, _, hgg, _⟩
    · simp [Value.ownBlock] at hk
    · simp [Value.ownBlock] at hk
      subst hk
      rw [hU] at hgg
      exact hx _ _ (Option.some.inj hgg)
theorem owns_grown {w w' : World} {B B' : Nat} {e e' : TypeId} {sz sz' : Nat} {x v : Value} {m n : Nat} {ys xs : List Value} {o : Obj} (h : w.ownsRow B e sz x m ys) (hown : w.ownsRow B' e' sz' v n xs) (hg : (w.alloc o).grownBy w' v.ownBlock) (he : e ≠ e') : w'.ownsRow B e sz x m ys :=
  owns_same h (fun _ _ hk ho => grown_keeps hk (by
    intro c fz h
    obtain ⟨c', fz', ho⟩ := ho
    rw [ho] at h; cases h; exact he rfl) hown hg)
theorem owns_less {w : World} {B B' : Nat} {e : TypeId} {sz : Nat} {v : Value} {n : Nat} {xs : List Value} (h : w.ownsRow B e sz v n xs) (hB : B' ≤ B) : w.ownsRow B' e sz v n xs := ⟨h.1, h.2.imp id fun ⟨g, cap, cur, e1, e2, e3⟩ => ⟨g, cap, cur, e1, Nat.le_trans hB e2, e3⟩⟩
theorem owns_below {w w' : World} {B : Nat} {e : TypeId} {sz : Nat} {v : Value} {n : Nat} {xs : List Value} (h : w.ownsRow B e sz v n xs) (hb : Below w.heap.size w w') : w'.ownsRow B e sz v n xs := owns_same h (fun _ _ hj _ => below_same hb hj)
/-- the state of Look's walk: at wr, from w -/
structure LookS (N : Nat) (w : World) (V Bx : Nat) (vd nx : Int) (lv uv0 fv0 : Value) (wr : World) (uv fv : Value) (ui : List Int) (fls : List (List (List UInt8))) (gs : List (Option Addr × Nat × Nat)) : Prop where
  hV : wr.heap[V]? = some (.cells #[uv, fv] 65 (0, 0))
  hB : wr.heap[Bx]? = some (.cells #[.int .i64 vd, .int .i64 nx, lv] 28 (0, 0))
  hu : wr.ownsRow N 3 1 uv ui.length (ui.map (Value.int .i64))
  hf : wr.ownsRow N 35 1 fv gs.length (gs.map encSl)
  hl : gs.length = fls.length
  hr : Reads N wr gs fls
  hk : Kept (fun j => j = V ∨ uv0.ownBlock = some j ∨ fv0.ownBlock = some j) w wr
  ou : uv.ownBlock = uv0.ownBlock ∨ ∀ j, uv.ownBlock = some j → w.heap.size ≤ j
  of : fv.ownBlock = fv0.ownBlock ∨ ∀ j, fv.ownBlock = some j → w.heap.size ≤ j
section
variable {N V Bx : Nat} {w wr w' : World} {vd nx : Int} {lv uv0 fv0 uv fv : Value} {ui : List Int} {fls : List (List (List UInt8))} {gs : List (Option Addr × Nat × Nat)}
theorem LookS.below (h : LookS N w V Bx vd nx lv uv0 fv0 wr uv fv ui fls gs) (hb : Below wr.heap.size wr w') : LookS N w V Bx vd nx lv uv0 fv0 w' uv fv ui fls gs :=
  ⟨below_same hb h.hV, below_same hb h.hB, owns_below h.hu hb, owns_below h.hf hb, h.hl, h.hr.below hb, h.hk.trans (kept_below hb), h.ou, h.of⟩
/-- an append to a row of news -/
theorem LookS.news (h : LookS N w V Bx vd nx lv uv0 fv0 wr uv fv ui fls gs) (hN : N ≤ w.heap.size) {ov : Value} {n : Nat} {xs : List Value} {o : Obj} (hown : wr.ownsRow w.heap.size 103 3 ov n xs) (hg : (wr.alloc o).grownBy w' ov.ownBlock) : LookS N w V Bx vd nx lv uv0 fv0 w' uv fv ui fls gs := by
  have hk : Kept (fun j => ov.ownBlock = some j) wr w' := ((Kept.refl _ wr).alloc _).trans (kept_grown hg)
  have hsp : Spares N wr (fun j => ov.ownBlock = some j) := spares_own hown hN (by decide) (by decide)
  refine ⟨grown_keeps h.hV (by intro c fz e; cases e) hown hg, grown_keeps h.hB (by intro c fz e; cases e) hown hg, owns_grown h.hu hown hg (by decide), owns_grown h.hf hown hg (by decide), h.hl, h.hr.kept hk hsp, ?_, h.ou, h.of⟩
  refine ⟨hk.os.trans h.hk.os, hk.tape.trans h.hk.tape, hk.output.trans h.hk.output, Nat.le_trans h.hk.size hk.size, fun j hj hs => (hk.block j (Nat.lt_of_lt_of_le hj h.hk.size) (fun e => ?_)).trans (h.hk.block j hj hs)⟩
  have := (hown.lt j e).1
  omega
theorem LookS.setU (h : LookS N w V Bx vd nx lv uv0 fv0 wr uv fv ui fls gs) (hN : N ≤ V) {uv' : Value} {ui' : List Int} (ho : wr.ownsRow w.heap.size 3 1 uv' ui'.length (ui'.map (Value.int .i64))) (hNw : N ≤ w.heap.size) : LookS N w V Bx vd nx lv uv0 fv0 (wr.setCell ⟨V, 0, none⟩ uv') uv' fv ui' fls gs := by
  have hne : Bx ≠ V := ne_of_obj h.hB h.hV (by intro e; cases e)
  exact ⟨set2_0 h.hV, setCell_same h.hB hne, owns_less (owns_setAny ho h.hV (by decide)) hNw, owns_setAny h.hf h.hV (by decide), h.hl, h.hr.kept (Kept.setB (Kept.refl (fun j => j = V) wr) _) (spares_at h.hV hN (by decide) (by decide)), h.hk.set (fun _ => Or.inl rfl) _, Or.inr (fun j e => (ho.lt j e).1), h.of⟩
theorem LookS.setF (h : LookS N w V Bx vd nx lv uv0 fv0 wr uv fv ui fls gs) (hN : N ≤ V) {fv' : Value} {fls' : List (List (List UInt8))} {gs' : List (Option Addr × Nat × Nat)} (ho : wr.ownsRow w.heap.size 35 1 fv' gs'.length (gs'.map encSl)) (hl : gs'.length = fls'.length) (hr : Reads N wr gs' fls') (hNw : N ≤ w.heap.size) : LookS N w V Bx vd nx lv uv0 fv0 (wr.setCell ⟨V, 1, none⟩ fv') uv fv' ui fls' gs' := by
  have hne : Bx ≠ V := ne_of_obj h.hB h.hV (by intro e; cases e)
  exact ⟨set2_1 h.hV, setCell_same h.hB hne, owns_setAny h.hu h.hV (by decide), owns_less (owns_setAny ho h.hV (by decide)) hNw, hl, hr.kept (Kept.setB (Kept.refl (fun j => j = V) wr) _) (spares_at h.hV hN (by decide) (by decide)), h.hk.set (fun _ => Or.inl rfl) _, h.ou, Or.inr (fun j e => (ho.lt j e).1)⟩
/-- what the view holds at first spares what is safe -/
theorem spares_view (hV : w.heap[V]? = some (.cells #[uv0, fv0] 65 (0, 0))) (hN : N ≤ V) {n m : Nat} {xs ys : List Value} (hu : w.ownsRow N 3 1 uv0 n xs) (hf : w.ownsRow N 35 1 fv0 m ys) : Spares N w (fun j => j = V ∨ uv0.ownBlock = some j ∨ fv0.ownBlock = some j) :=
  (spares_at hV hN (by decide) (by decide)).or ((spares_own hu (Nat.le_refl _) (by decide) (by decide)).or (spares_own hf (Nat.le_refl _) (by decide) (by decide)))
end
theorem Reads.erase {N : Nat} {w : World} {gs : List (Option Addr × Nat × Nat)} {fls : List (List (List UInt8))} (h : Reads N w gs fls) (i : Nat) : Reads N w (gs.eraseIdx i) (fls.eraseIdx i) := fun j f hf => by
  rw [List.getElem?_eraseIdx] at hf ⊢
  split at hf
  · rename_i hlt
    rw [if_pos hlt]
    exact h j f hf
  · rename_i hlt
    rw [if_neg hlt]
    exact h (j + 1) f hf
/-- a letter of a row -/
theorem xrow_at {N : Nat} {w : World} {v : Value} {zs : List (Let × Value)} (h : XRow N w v zs) {j : Nat} {z : Let × Value} (hz : zs[j]? = some z) : ∃ p off xa xc cap, v = .slice (some ⟨p, off, none⟩) zs.length cap ∧ z.2 = .slice xa z.1.flags.length xc ∧ w.cell? ⟨p, off + j * 4, none⟩ = some (.int .i64 z.1.uid) ∧ w.cell? ⟨p, off + j * 4 + 1, none⟩ = some (.slice xa z.1.flags.length xc) ∧ w.cell? ⟨p, off + j * 4 + 2, none⟩ = some (.int .i64 z.1.day) ∧ w.cell? ⟨p, off + j * 4 + 3, none⟩ = some (.string ⟨z.1.text.toArray⟩) ∧ SRow w (.slice xa z.1.flags.length xc) z.1.flags ∧ SafeV N w (.slice xa z.1.flags.length xc) := by
  obtain ⟨⟨ao, cap, rfl, hcap, hcm, hfls, hcell⟩, hsv, hsz⟩ := h
  have hzm := List.mem_of_getElem? hz
  have h0 := hfls z hzm
  have h0' := h0
  obtain ⟨xa, xc, hz2, _⟩ := h0'
  have hq : ∀ i u, i < 4 → (cells1 z)[i]? = some u → ∃ p off, ao = some ⟨p, off, none⟩ ∧ w.cell? ⟨p, off + j * 4 + i, none⟩ = some u := fun i u hi hu => by
    obtain ⟨p, off, e1, _, e3⟩ := hcell (j * 4 + i) u (by rw [cellsL_get _ _ _ hi, hz]; exact hu)
    exact ⟨p, off, e1, by rw [Nat.add_assoc]; exact e3⟩
  obtain ⟨p, off, rfl, c0⟩ := hq 0 _ (by omega) rfl
  have hq2 : ∀ i u, i < 4 → (cells1 z)[i]? = some u → w.cell? ⟨p, off + j * 4 + i, none⟩ = some u := fun i u hi hu => by
    obtain ⟨p', off', e1, e2⟩ := hq i u hi hu
    cases e1; exact e2
  refine ⟨p, off, xa, xc, cap, rfl, hz2, c0, ?_, hq2 2 _ (by omega) rfl, hq2 3 _ (by omega) rfl, ?_, ?_⟩
  · rw [← hz2]; exact hq2 1 _ (by omega) rfl
  · rw [← hz2]; exact h0
  · rw [← hz2]; exact hsz z hzm
theorem below_drewN (w : World) (n : Nat) : Below w.heap.size w (w.drewN n) := ⟨rfl, rfl, rfl, Nat.le_refl _, fun _ _ => rfl⟩
/-- how a box is seen: the view's block, its rows -/
def ViewS (N : Nat) (w : World) (V : Nat) (uv fv : Value) (us : Us) : Prop := ∃ gs, w.heap[V]? = some (.cells #[uv, fv] 65 (0, 0)) ∧ w.ownsRow N 3 1 uv us.length ((us.map (·.1)).map (Value.int .i64)) ∧ w.ownsRow N 35 1 fv us.length (gs.map encSl) ∧ Reads N w gs (us.map (·.2))
set_option maxRecDepth 100000 in
set_option maxHeartbeats 4000000 in
theorem open_any (N : Nat) (b : BoxP) (lv : Value) (zs : List (Let × Value)) (w : World) (hN : N ≤ w.heap.size) (hzs : zs.map (·.1) = b.ls) (hx : XRow N w lv zs) (hfl : ∀ x ∈ b.ls, x.flags.length ≤ 1000000) (hl : b.ls.length ≤ 1000000) :
    Calls Tryz.prog 7 #[.agg #[.int .i64 b.valid, .int .i64 b.next, lv]] w fun e w' => ∃ V uv fv, e = .returned (.pointer (some ⟨V, 0, none⟩)) ∧ w.heap.size ≤ V ∧ ViewS N w' V uv fv (b.ls.map fun x => (x.uid, x.flags)) ∧ Below w.heap.size w w' := by
  obtain ⟨ao, cap, hlv, _⟩ := hx.1
  subst hlv
  have x0 := World.heap_alloc_new w (.cells #[.int .i64 b.valid, .int .i64 b.next, .slice ao zs.length cap] 28)
  have y0 : Below w.heap.size w (w.alloc (.cells #[.int .i64 b.valid, .int .i64 b.next, .slice ao zs.length cap] 28)) := (Below.refl _ _).alloc (Nat.le_refl _) _
  have s0 := alloc_size w (.cells #[.int .i64 b.valid, .int .i64 b.next, .slice ao zs.length cap] 28)
  obtain ⟨w1, hw1⟩ : ∃ w1, w.alloc (.cells #[.int .i64 b.valid, .int .i64 b.next, .slice ao zs.length cap] 28) = w1 := ⟨_, rfl⟩
  rw [hw1] at x0 y0 s0
  have x1 := World.heap_alloc_new w1 (.cells #[.slice none 0 0, .slice none 0 0] 65)
  have y1 : Below w1.heap.size w1 (w1.alloc (.cells #[.slice none 0 0, .slice none 0 0] 65)) := (Below.refl _ _).alloc (Nat.le_refl _) _
  have k := alloc_at (o := .cells #[.slice none 0 0, .slice none 0 0] 65) x0
  have hxx := (hx.below y0).below y1
  have hzl : zs.length ≤ 1000000 := by rw [← hzs, List.length_map] at hl; exact hl
  have cS := see_any N w1.heap.size b (.int .i64 0) (.int .i64 0) (.slice ao zs.length cap) _ _ zs _ x1 (by omega) hxx (fun z hz => hfl z.1 (by rw [← hzs]; exact List.mem_map_of_mem hz)) hzl
  obtain ⟨k0, k1, k2⟩ := three_cells k
  have HSP : Hid (Spares N (w1.alloc (.cells #[.slice none 0 0, .slice none 0 0] 65)) (fun j => j = w1.heap.size)) := spares_at x1 (by omega) (by decide) (by decide)
  have HZ := Lib.hid hzs
  have S0 := Lib.hid s0
  have hs1 : (w1.alloc (.cells #[.slice none 0 0, .slice none 0 0] 65)).heap.size = w1.heap.size + 1 := alloc_size _ _
  have S1 := Lib.hid hs1
  clear hx hxx hzs hfl x0 x1 k s0 hs1
  go_enter Tryz.func7, Tryz.ntmps7
  go_wp2_with (go_at_call 21; go_loud ((with_reducible refine cS.mono ?_); rintro e w2 ⟨rfl, uv, fv, gs, hV, hu, hf, hr, hk⟩))
  go_ret
  have hk2 : Below w.heap.size w w2 := (y0.trans (y1.mono y0.size)).trans (hk.below (by rw [S1.out, S0.out]; omega) (fun j e => by rw [e, S0.out]; omega))
  refine ⟨w1.heap.size, uv, fv, rfl, by rw [S0.out]; omega, ⟨gs, hV, ?_, ?_, ?_⟩, hk2⟩
  · have e : ((b.ls.map fun x => (x.uid, x.flags)).map (·.1)) = zs.map (·.1.uid) := by rw [← HZ.out, List.map_map, List.map_map]; rfl
    rw [e, List.length_map, ← HZ.out, List.length_map]
    exact owns_less hu (by rw [S1.out, S0.out]; omega)
  · rw [List.length_map, ← HZ.out, List.length_map]
    exact owns_less hf (by rw [S1.out, S0.out]; omega)
  · have e : ((b.ls.map fun x => (x.uid, x.flags)).map (·.2)) = zs.map (·.1.flags) := by rw [← HZ.out, List.map_map, List.map_map]; rfl
    rw [e]; exact hr
end Go.Proofs.YteclajckkjocnaaGreatDoor
namespace Go.Proofs.YteclajckkjocnaaGreatDoor
open Go.RowKit Go.Shelf Go.Sort
set_option linter.unusedSimpArgs false
theorem owns_n {w : World} {B : Nat} {e : TypeId} {sz : Nat} {v : Value} {n m : Nat} {xs : List Value} (h : w.ownsRow B e sz v n xs) (hn : n = m) : w.ownsRow B e sz v m xs := hn ▸ h
abbrev NV := List (Int × Int × (Option Addr × Nat × Nat))
/-- Look's state: the view; what is told (ov), what is told of flags (cv) -/
structure LookN (N : Nat) (w : World) (V Bx : Nat) (vd nx : Int) (lv uv0 fv0 : Value) (wr : World) (uv fv : Value) (ui : List Int) (fls : List (List (List UInt8))) (gs : List (Option Addr × Nat × Nat)) (ov : Value) (vs : NV) (ns : List Nw) (cv : Value) (cs : NV) (ms : List Nw) : Prop where
  s : LookS N w V Bx vd nx lv uv0 fv0 wr uv fv ui fls gs
  o : wr.ownsRow w.heap.size 103 3 ov vs.length (cellsN vs)
  r : ReadsN N wr vs ns
  c : wr.ownsRow w.heap.size 103 3 cv cs.length (cellsN cs)
  q : ReadsN N wr cs ms
  d : ∀ j, ov.ownBlock = some j → cv.ownBlock = some j → False
section
variable {N V Bx : Nat} {w wr w' : World} {vd nx : Int} {lv uv0 fv0 uv fv ov cv : Value} {ui : List Int} {fls : List (List (List UInt8))} {gs : List (Option Addr × Nat × Nat)} {vs cs : NV} {ns ms : List Nw}
theorem LookN.below (h : LookN N w V Bx vd nx lv uv0 fv0 wr uv fv ui fls gs ov vs ns cv cs ms) (hb : Below wr.heap.size wr w') : LookN N w V Bx vd nx lv uv0 fv0 w' uv fv ui fls gs ov vs ns cv cs ms :=
  ⟨h.s.below hb, owns_below h.o hb, h.r.below hb, owns_below h.c hb, h.q.below hb, h.d⟩
theorem LookN.setU (h : LookN N w V Bx vd nx lv uv0 fv0 wr uv fv ui fls gs ov vs ns cv cs ms) (hN : N ≤ V) (hNw : N ≤ w.heap.size) {uv' : Value} {ui' : List Int} (ho : wr.ownsRow w.heap.size 3 1 uv' ui'.length (ui'.map (Value.int .i64))) : LookN N w V Bx vd nx lv uv0 fv0 (wr.setCell ⟨V, 0, none⟩ uv') uv' fv ui' fls gs ov vs ns cv cs ms := by
  have hk : Kept (fun j => j = V) wr (wr.setCell ⟨V, 0, none⟩ uv') := Kept.setB (Kept.refl _ wr) _
  have hs := spares_at h.s.hV hN (by decide) (by decide)
  exact ⟨h.s.setU hN ho hNw, owns_setAny h.o h.s.hV (by decide), h.r.kept hk hs, owns_setAny h.c h.s.hV (by decide), h.q.kept hk hs, h.d⟩
theorem LookN.setF (h : LookN N w V Bx vd nx lv uv0 fv0 wr uv fv ui fls gs ov vs ns cv cs ms) (hN : N ≤ V) (hNw : N ≤ w.heap.size) {fv' : Value} {fls' : List (List (List UInt8))} {gs' : List (Option Addr × Nat × Nat)} (ho : wr.ownsRow w.heap.size 35 1 fv' gs'.length (gs'.map encSl)) (hl : gs'.length = fls'.length) (hr : Reads N wr gs' fls') : LookN N w V Bx vd nx lv uv0 fv0 (wr.setCell ⟨V, 1, none⟩ fv') uv fv' ui fls' gs' ov vs ns cv cs ms := by
  have hk : Kept (fun j => j = V) wr (wr.setCell ⟨V, 1, none⟩ fv') := Kept.setB (Kept.refl _ wr) _
  have hs := spares_at h.s.hV hN (by decide) (by decide)
  exact ⟨h.s.setF hN ho hl hr hNw, owns_setAny h.o h.s.hV (by decide), h.r.kept hk hs, owns_setAny h.c h.s.hV (by decide), h.q.kept hk hs, h.d⟩
theorem news_cells (vs : NV) (x : Int × Int × (Option Addr × Nat × Nat)) : cellsN vs ++ [.int .i64 x.1, .int .i64 x.2.1, encSl x.2.2] = cellsN (vs ++ [x]) := by
  rw [cellsN_app]
  simp [cellsN]
/-- an append to what is told -/
theorem LookN.tellO (h : LookN N w V Bx vd nx lv uv0 fv0 wr uv fv ui fls gs ov vs ns cv cs ms) (hNw : N ≤ w.heap.size) {ob : Obj} {p q : Nat} {x : Int × Int × (Option Addr × Nat × Nat)} {f : List (List UInt8)} (hx1 : SRow wr (encSl x.2.2) f) (hx2 : SafeV N wr (encSl x.2.2))
    (ho : w'.ownsRow w.heap.size 103 3 (.slice (some ⟨p, 0, none⟩) (vs.length + 1) q) (vs.length + 1) (cellsN vs ++ [.int .i64 x.1, .int .i64 x.2.1, encSl x.2.2])) (hg : (wr.alloc ob).grownBy w' ov.ownBlock) (hp : ov.ownBlock = some p ∨ p = wr.heap.size + 1) :
    LookN N w V Bx vd nx lv uv0 fv0 w' uv fv ui fls gs (.slice (some ⟨p, 0, none⟩) (vs.length + 1) q) (vs ++ [x]) (ns ++ [⟨x.1, x.2.1, f⟩]) cv cs ms := by
  have hk : Kept (fun j => ov.ownBlock = some j) wr w' := ((Kept.refl _ wr).alloc _).trans (kept_grown hg)
  have hs : Spares N wr (fun j => ov.ownBlock = some j) := spares_own h.o hNw (by decide) (by decide)
  refine ⟨h.s.news hNw h.o hg, ?_, (h.r.kept hk hs).app (ReadsN.one (hx1.kept hx2 hk hs) (hx2.kept hk hs)), ?_, h.q.kept hk hs, fun j e1 e2 => ?_⟩
  · rw [news_cells] at ho
    exact owns_n ho (by simp)
  · refine (h.c.alloc ob).kept hg ?_
    cases hc : cv.ownBlock with
    | none => exact Or.inl rfl
    | some j => exact Or.inr (fun e => h.d j e.symm hc)
  · obtain rfl : p = j := by simpa [Value.ownBlock] using e1
    rcases hp with e | e
    · exact h.d _ e e2
    · have := (h.c.lt _ e2).2
      omega
theorem LookN.tellC (h : LookN N w V Bx vd nx lv uv0 fv0 wr uv fv ui fls gs ov vs ns cv cs ms) (hNw : N ≤ w.heap.size) {ob : Obj} {p q : Nat} {x : Int × Int × (Option Addr × Nat × Nat)} {f : List (List UInt8)} (hx1 : SRow wr (encSl x.2.2) f) (hx2 : SafeV N wr (encSl x.2.2))
    (ho : w'.ownsRow w.heap.size 103 3 (.slice (some ⟨p, 0, none⟩) (cs.length + 1) q) (cs.length + 1) (cellsN cs ++ [.int .i64 x.1, .int .i64 x.2.1, encSl x.2.2])) (hg : (wr.alloc ob).grownBy w' cv.ownBlock) (hp : cv.ownBlock = some p ∨ p = wr.heap.size + 1) :
    LookN N w V Bx vd nx lv uv0 fv0 w' uv fv ui fls gs ov vs ns (.slice (some ⟨p, 0, none⟩) (cs.length + 1) q) (cs ++ [x]) (ms ++ [⟨x.1, x.2.1, f⟩]) := by
  have hk : Kept (fun j => cv.ownBlock = some j) wr w' := ((Kept.refl _ wr).alloc _).trans (kept_grown hg)
  have hs : Spares N wr (fun j => cv.ownBlock = some j) := spares_own h.c hNw (by decide) (by decide)
  refine ⟨h.s.news hNw h.c hg, ?_, h.r.kept hk hs, ?_, (h.q.kept hk hs).app (ReadsN.one (hx1.kept hx2 hk hs) (hx2.kept hk hs)), fun j e1 e2 => ?_⟩
  · refine (h.o.alloc ob).kept hg ?_
    cases hc : ov.ownBlock with
    | none => exact Or.inl rfl
    | some j => exact Or.inr (fun e => h.d j hc e.symm)
  · rw [news_cells] at ho
    exact owns_n ho (by simp)
  · obtain rfl : p = j := by simpa [Value.ownBlock] using e2
    rcases hp with e | e
    · exact h.d _ e1 e
    · have := (h.o.lt _ e1).2
      omega
/-- flags told anew, in place -/
theorem LookN.flag {pf qf k : Nat} {g : Option Addr × Nat × Nat} {f : List (List UInt8)} (h : LookN N w V Bx vd nx lv uv0 fv0 wr uv (.slice (some ⟨pf, 0, none⟩) gs.length qf) ui fls gs ov vs ns cv cs ms) (hk : k < gs.length) (h1 : SRow wr (encSl g) f) (h2 : SafeV N wr (encSl g)) :
    LookN N w V Bx vd nx lv uv0 fv0 (wr.setCell ⟨pf, k, none⟩ (encSl g)) uv (.slice (some ⟨pf, 0, none⟩) gs.length qf) ui (fls.set k f) (gs.set k g) ov vs ns cv cs ms := by
  obtain ⟨cur, hh⟩ : ∃ cur, wr.heap[pf]? = some (.cells cur 35 (0, 0)) := by
    rcases h.s.hf.2 with ⟨e, _⟩ | ⟨g, c, cur, e, _, hh, _⟩
    · cases e
    · cases e; exact ⟨cur, hh⟩
  have hkp : Kept (fun j => j = pf) wr (wr.setCell ⟨pf, k, none⟩ (encSl g)) := Kept.setB (Kept.refl _ wr) _
  have hNp : N ≤ pf := (h.s.hf.lt pf rfl).1
  have hs : Spares N wr (fun j => j = pf) := spares_at hh hNp (by decide) (by decide)
  have hVp : V ≠ pf := ne_of_obj h.s.hV hh (by intro e; cases e)
  have hBp : Bx ≠ pf := ne_of_obj h.s.hB hh (by intro e; cases e)
  have hst := (h.s.hf.stored k (encSl g)).1
  rw [← List.map_set] at hst
  refine ⟨⟨setCell_same h.s.hV hVp, setCell_same h.s.hB hBp, owns_setAny h.s.hu hh (by decide), ?_, by rw [List.length_set, List.length_set]; exact h.s.hl, ?_, ?_, h.s.ou, h.s.of⟩, owns_setAny h.o hh (by decide), h.r.kept hkp hs, owns_setAny h.c hh (by decide), h.q.kept hkp hs, h.d⟩
  · rw [List.length_set]; exact hst
  · intro i f' hf'
    rw [List.getElem?_set] at hf' ⊢
    split at hf'
    · rename_i hik
      subst hik
      rw [if_pos rfl, if_pos hk]
      rw [if_pos (by rw [← h.s.hl]; exact hk)] at hf'
      cases hf'
      exact ⟨g, rfl, h1.kept h2 hkp hs, h2.kept hkp hs⟩
    · rename_i hik
      rw [if_neg hik]
      exact (h.s.hr.kept hkp hs) i f' hf'
  · refine h.s.hk.set (fun hlt => ?_) _
    have e : (Value.slice (some ⟨pf, 0, none⟩) gs.length qf).ownBlock = some pf := rfl
    rcases h.s.of with e2 | e2
    · exact Or.inr (Or.inr (e2 ▸ e))
    · have h3 := e2 pf e
      have h4 : pf < w.heap.size := hlt
      omega
/-- both rows written anew, or grown in place -/
theorem LookN.grow (h : LookN N w V Bx vd nx lv uv0 fv0 wr uv fv ui fls gs ov vs ns cv cs ms) (hN : N ≤ V) (_hNw : N ≤ w.heap.size) {uv' fv' : Value} {ui' : List Int} {fls' : List (List (List UInt8))} {gs' : List (Option Addr × Nat × Nat)} (hk : Kept (fun j => j = V ∨ uv.ownBlock = some j ∨ fv.ownBlock = some j) wr w')
    (hV' : w'.heap[V]? = some (.cells #[uv', fv'] 65 (0, 0))) (hu' : w'.ownsRow N 3 1 uv' ui'.length (ui'.map (Value.int .i64))) (hf' : w'.ownsRow N 35 1 fv' gs'.length (gs'.map encSl)) (hl' : gs'.length = fls'.length) (hr' : Reads N w' gs' fls')
    (hpu : uv'.ownBlock = uv.ownBlock ∨ ∀ j, uv'.ownBlock = some j → wr.heap.size ≤ j) (hpf : fv'.ownBlock = fv.ownBlock ∨ ∀ j, fv'.ownBlock = some j → wr.heap.size ≤ j) : LookN N w V Bx vd nx lv uv0 fv0 w' uv' fv' ui' fls' gs' ov vs ns cv cs ms := by
  have hsp : Spares N wr (fun j => j = V ∨ uv.ownBlock = some j ∨ fv.ownBlock = some j) := spares_view h.s.hV hN h.s.hu h.s.hf
  have hout : ∀ {j : Nat} {c : Array Value} {T : TypeId} {fz : Nat × Nat}, wr.heap[j]? = some (.cells c T fz) → T ≠ 65 → T ≠ 3 → T ≠ 35 → ¬ (j = V ∨ uv.ownBlock = some j ∨ fv.ownBlock = some j) := by
    intro j c T fz hj t1 t2 t3
    rintro (e | e | e)
    · subst e
      have := h.s.hV
      rw [hj] at this
      cases this
      exact t1 rfl
    · rcases h.s.hu.2 with ⟨e0, _⟩ | ⟨g, c', cur, e0, _, hh, _⟩
      · rw [e0] at e; cases e
      · rw [e0] at e; cases e
        rw [hj] at hh; cases hh; exact t2 rfl
    · rcases h.s.hf.2 with ⟨e0, _⟩ | ⟨g, c', cur, e0, _, hh, _⟩
      · rw [e0] at e; cases e
      · rw [e0] at e; cases e
        rw [hj] at hh; cases hh; exact t3 rfl
  have hnews : ∀ {v : Value} {n : Nat} {xs : List Value}, wr.ownsRow w.heap.size 103 3 v n xs → w'.ownsRow w.heap.size 103 3 v n xs := fun hv => owns_same hv (fun j o hj ho => by
    obtain ⟨c, fz, rfl⟩ := ho
    exact hk.obj hj (hout hj (by decide) (by decide) (by decide)))
  have hws := h.s.hk.size
  refine ⟨⟨hV', hk.obj h.s.hB (hout h.s.hB (by decide) (by decide) (by decide)), hu', hf', hl', hr', ?_, ?_, ?_⟩, hnews h.o, h.r.kept hk hsp, hnews h.c, h.q.kept hk hsp, h.d⟩
  · refine ⟨hk.os.trans h.s.hk.os, hk.tape.trans h.s.hk.tape, hk.output.trans h.s.hk.output, Nat.le_trans hws hk.size, fun j hj hs => (hk.block j (Nat.lt_of_lt_of_le hj hws) ?_).trans (h.s.hk.block j hj hs)⟩
    rintro (e | e | e)
    · exact hs (Or.inl e)
    · rcases h.s.ou with e2 | e2
      · exact hs (Or.inr (Or.inl (e2 ▸ e)))
      · have := e2 j e; omega
    · rcases h.s.of with e2 | e2
      · exact hs (Or.inr (Or.inr (e2 ▸ e)))
      · have := e2 j e; omega
  · rcases hpu with e | e
    · rw [e]; exact h.s.ou
    · exact Or.inr (fun j hj => Nat.le_trans hws (e j hj))
  · rcases hpf with e | e
    · rw [e]; exact h.s.of
    · exact Or.inr (fun j hj => Nat.le_trans hws (e j hj))
/-- what is told, and what is told of flags, in one row -/
theorem LookN.fin {T : Us} (h : LookN N w V Bx vd nx lv uv0 fv0 wr uv fv (T.map (·.1)) (T.map (·.2)) gs ov vs ns cv cs ms) (hNw : N ≤ w.heap.size) {v' : Value} (hg : wr.grownBy w' ov.ownBlock) (ho : w'.ownsRow w.heap.size 103 3 v' (vs.length + cs.length) (cellsN vs ++ cellsN cs)) :
    w'.ownsRow w.heap.size 103 3 v' (vs ++ cs).length (cellsN (vs ++ cs)) ∧ ReadsN N w' (vs ++ cs) (ns ++ ms) ∧ ViewS N w' V uv fv T ∧ Kept (fun j => j = V ∨ uv0.ownBlock = some j ∨ fv0.ownBlock = some j) w w' ∧
      (uv.ownBlock = uv0.ownBlock ∨ ∀ j, uv.ownBlock = some j → w.heap.size ≤ j) ∧ (fv.ownBlock = fv0.ownBlock ∨ ∀ j, fv.ownBlock = some j → w.heap.size ≤ j) := by
  have hk : Kept (fun j => ov.ownBlock = some j) wr w' := kept_grown hg
  have hs : Spares N wr (fun j => ov.ownBlock = some j) := spares_own h.o hNw (by decide) (by decide)
  have hout : ∀ {j : Nat} {c : Array Value} {T : TypeId} {fz : Nat × Nat}, wr.heap[j]? = some (.cells c T fz) → T ≠ 103 → ¬ (ov.ownBlock = some j) := by
    intro j c T fz hj t e
    rcases h.o.2 with ⟨e0, _⟩ | ⟨g, c', cur, e0, _, hh, _⟩
    · rw [e0] at e; cases e
    · rw [e0] at e; cases e
      rw [hj] at hh; cases hh; exact t rfl
  have hrow : ∀ {B : Nat} {e : TypeId} {v : Value} {n : Nat} {xs : List Value}, wr.ownsRow B e 1 v n xs → e ≠ 103 → w'.ownsRow B e 1 v n xs := fun hv he => owns_same hv (fun j o hj ho => by
    obtain ⟨c, fz, rfl⟩ := ho
    exact hk.obj hj (hout hj he))
  refine ⟨?_, (h.r.kept hk hs).app (h.q.kept hk hs), ⟨gs, hk.obj h.s.hV (hout h.s.hV (by decide)), ?_, ?_, h.s.hr.kept hk hs⟩, ?_, h.s.ou, h.s.of⟩
  · rw [cellsN_app]
    exact owns_n ho (List.length_append ..).symm
  · have := hrow h.s.hu (by decide)
    exact owns_n this (List.length_map ..)
  · have := hrow h.s.hf (by decide)
    exact owns_n this (by rw [h.s.hl, List.length_map])
  · refine ⟨hk.os.trans h.s.hk.os, hk.tape.trans h.s.hk.tape, hk.output.trans h.s.hk.output, Nat.le_trans h.s.hk.size hk.size, fun j hj hsj => (hk.block j (Nat.lt_of_lt_of_le hj h.s.hk.size) (fun e => ?_)).trans (h.s.hk.block j hj hsj)⟩
    have := (h.o.lt j e).1
    omega
end
theorem own_fresh {v : Value} {p H X n c : Nat} (hp : v.ownBlock = some p ∨ p = H) (h : X ≤ H) : (Value.slice (some ⟨p, 0, none⟩) n c).ownBlock = v.ownBlock ∨ ∀ j, (Value.slice (some ⟨p, 0, none⟩) n c).ownBlock = some j → X ≤ j := by
  rcases hp with e | e
  · exact Or.inl (by rw [e]; rfl)
  · refine Or.inr (fun j hj => ?_)
    have : p = j := by simpa [Value.ownBlock] using hj
    omega
theorem own_some {w : World} {B : Nat} {e : TypeId} {sz : Nat} {v : Value} {n : Nat} {xs : List Value} (h : w.ownsRow B e sz v n xs) (hn : 0 < n) : ∃ p q, v = .slice (some ⟨p, 0, none⟩) n q := by
  rcases h.2 with ⟨_, h0⟩ | ⟨g, cap, cur, e, _⟩
  · omega
  · exact ⟨g, cap, e⟩
end Go.Proofs.YteclajckkjocnaaGreatDoor
