/- The walks over the statements' words on posts: short, boxed. Condition: flags.system lies as the program's text lays it. One who is told all: the state of the walk over ViewFollows, and what each write leaves of it; the walk over Uids. Condition: none. -/
import Derived.Test.YteclajckkjocnaaGreatDoorPkFlagG
import Derived.Test.YteclajckkjocnaaGreatDoorPkPFollow
import Derived.Test.YteclajckkjocnaaGreatDoorPkBoxL
import Derived.Test.YteclajckkjocnaaGreatDoorPkViewC
namespace Go.Proofs.YteclajckkjocnaaGreatDoor
open Go.RowKit Go.Shelf Go.Sort
set_option linter.unusedSimpArgs false
/-- a row of posts -/
def PRow (w : World) (v : Value) (l : List Pst) : Prop := ∃ ao cap, v = .slice ao l.length cap ∧ l.length ≤ cap ∧ (cap ≤ 9223372036854775807 ∧ (ao = none → cap = 0)) ∧ ∀ (j : Nat) (x : Pst), l[j]? = some x → ∃ b off fv, ao = some ⟨b, off, none⟩ ∧ b < w.heap.size ∧ SRow w fv x.flags ∧
  w.cell? ⟨b, off + j * 5, none⟩ = some (.int .i64 x.what) ∧ w.cell? ⟨b, off + j * 5 + 1, none⟩ = some (.int .i64 x.uid) ∧ w.cell? ⟨b, off + j * 5 + 2, none⟩ = some (.int .i64 x.n) ∧ w.cell? ⟨b, off + j * 5 + 3, none⟩ = some fv ∧ w.cell? ⟨b, off + j * 5 + 4, none⟩ = some (.string ⟨x.text.toArray⟩)
theorem PRow.below {w w' : World} {v : Value} {l : List Pst} (h : PRow w v l) (hb : Below w.heap.size w w') : PRow w' v l := by
  obtain ⟨ao, cap, h1, h2, h3, h4⟩ := h
  refine ⟨ao, cap, h1, h2, h3, fun j x hj => ?_⟩
  obtain ⟨b, off, fv, e1, e2, e3, c0, c1, c2, c3, c4⟩ := h4 j x hj
  have hc := fun i => hb.cell (p := ⟨b, i, none⟩) e2
  exact ⟨b, off, fv, e1, Nat.lt_of_lt_of_le e2 hb.size, e3.below hb, (hc _).trans c0, (hc _).trans c1, (hc _).trans c2, (hc _).trans c3, (hc _).trans c4⟩
theorem ViewS.keptB {N : Nat} {w w' : World} {V B : Nat} {uv fv : Value} {us : Us} {c : Array Value} (h : ViewS N w V uv fv us) (hB : w.heap[B]? = some (.cells c 28 (0, 0))) (hN : N ≤ B) (hk : Kept (fun k => k = B) w w') : ViewS N w' V uv fv us := by
  obtain ⟨gs, h1, h2, h3, h4⟩ := h
  have hsame : ∀ {e : TypeId} {sz n : Nat} {v : Value} {xs : List Value}, w.ownsRow N e sz v n xs → e ≠ 28 → w'.ownsRow N e sz v n xs := fun hv he => owns_same hv (fun j o hj ho => hk.obj hj (fun e' => by
    obtain ⟨c', fz, rfl⟩ := ho
    rw [e', hB] at hj
    cases hj
    exact he rfl))
  refine ⟨gs, hk.obj h1 (ne_of_obj h1 hB (by intro e; cases e)), hsame h2 (by decide), hsame h3 (by decide), h4.kept hk (spares_at hB hN (by decide) (by decide))⟩
end Go.Proofs.YteclajckkjocnaaGreatDoor
namespace Go.Proofs.YteclajckkjocnaaGreatDoor
open Go.RowKit Go.Shelf Go.Sort
set_option linter.unusedSimpArgs false
/-- the state: the box, how it is seen, what somebody holds who is told -/
structure FolS (N : Nat) (B V : Nat) (b : BoxP) (us : Us) (T : List Fl) (wr : World) (tv : Value) : Prop where
  hb : BoxS N wr B b
  hv : ∃ uv fv, ViewS N wr V uv fv us ∧ ∀ j, tv.ownBlock = some j → fv.ownBlock ≠ some j
  ht : ∃ gs, wr.ownsRow N 35 1 tv T.length (gs.map encSl) ∧ Reads N wr gs T
theorem owns_at {w : World} {B : Nat} {e : TypeId} {sz : Nat} {v : Value} {n : Nat} {xs : List Value} (h : w.ownsRow B e sz v n xs) {j : Nat} (hj : v.ownBlock = some j) : ∃ cur, w.heap[j]? = some (.cells cur e (0, 0)) := by
  rcases h.2 with ⟨e0, _⟩ | ⟨g, c', cur, e0, _, hh, _⟩
  · rw [e0] at hj; cases hj
  · rw [e0] at hj; cases hj
    exact ⟨cur, hh⟩
theorem owns_kept {w w' : World} {B : Nat} {e : TypeId} {sz : Nat} {v : Value} {n : Nat} {xs : List Value} {S : Nat → Prop} (h : w.ownsRow B e sz v n xs) (hk : Kept S w w') (hS : ∀ j, v.ownBlock = some j → ¬ S j) : w'.ownsRow B e sz v n xs := by
  rcases h.2 with e0 | ⟨g, c', cur, e0, hB, hh, hr⟩
  · exact ⟨h.1, Or.inl e0⟩
  · exact ⟨h.1, Or.inr ⟨g, c', cur, e0, hB, hk.obj hh (hS g (by rw [e0]; rfl)), hr⟩⟩
theorem owns_not {w : World} {B B' : Nat} {e e' : TypeId} {sz : Nat} {v : Value} {n : Nat} {xs : List Value} (h : w.ownsRow B e sz v n xs) {c : Array Value} {fz : Nat × Nat} (hj : w.heap[B']? = some (.cells c e' fz)) (he : e' ≠ e) : ¬ v.ownBlock = some B' := fun h0 => by
  obtain ⟨cur, hh⟩ := owns_at h h0
  rw [hj] at hh
  cases hh
  exact he rfl
section
variable {N B V : Nat} {b b' : BoxP} {us us' : Us} {T T' : List Fl} {wr w' : World} {tv tv' : Value}
theorem FolS.below (h : FolS N B V b us T wr tv) (hb : Below wr.heap.size wr w') : FolS N B V b us T w' tv := by
  obtain ⟨uv, fv, ⟨gs, h1, h2, h3, h4⟩, hne⟩ := h.hv
  obtain ⟨gt, h5, h6⟩ := h.ht
  exact ⟨h.hb.below hb, ⟨uv, fv, ⟨gs, below_same hb h1, owns_below h2 hb, owns_below h3 hb, h4.below hb⟩, hne⟩, gt, owns_below h5 hb, h6.below hb⟩
/-- a post to the box -/
theorem FolS.post (h : FolS N B V b us T wr tv) (hN : N ≤ B) (hk : Kept (fun k => k = B) wr w') (hb : BoxS N w' B b') : FolS N B V b' us T w' tv := by
  obtain ⟨uv, fv, hv, hne⟩ := h.hv
  obtain ⟨gt, h5, h6⟩ := h.ht
  obtain ⟨lv, zs, hB, _⟩ := h.hb
  exact ⟨hb, ⟨uv, fv, hv.keptB hB hN hk, hne⟩, gt, owns_kept h5 hk (fun j e e' => owns_not h5 hB (by decide) (e' ▸ e)), h6.kept hk (spares_at hB hN (by decide) (by decide))⟩
/-- what is told is taken -/
theorem FolS.tell (h : FolS N B V b us T wr tv) (hk : Kept (fun j => tv.ownBlock = some j) wr w') {gs : List (Option Addr × Nat × Nat)} (ho : w'.ownsRow N 35 1 tv' T'.length (gs.map encSl)) (hr : Reads N w' gs T') (hp : tv'.ownBlock = tv.ownBlock ∨ ∀ j, tv'.ownBlock = some j → wr.heap.size ≤ j) : FolS N B V b us T' w' tv' := by
  obtain ⟨gt, h5, h6⟩ := h.ht
  obtain ⟨lv, zs, hB, _⟩ := h.hb
  obtain ⟨uv, fv, ⟨gs', h1, h2, h3, h4⟩, hne⟩ := h.hv
  have hsp : Spares N wr (fun j => tv.ownBlock = some j) := spares_own h5 (Nat.le_refl _) (by decide) (by decide)
  refine ⟨h.hb.kept hk hsp (owns_not h5 hB (by decide)), ⟨uv, fv, ⟨gs', hk.obj h1 (owns_not h5 h1 (by decide)), owns_kept h2 hk (fun j e e' => ?_), owns_kept h3 hk (fun j e e' => hne j e' e), h4.kept hk hsp⟩, fun j e e' => ?_⟩, gs, ho, hr⟩
  · obtain ⟨c, hh⟩ := owns_at h2 e
    exact owns_not h5 hh (by decide) e'
  · rcases hp with hp | hp
    · exact hne j (hp ▸ e) e'
    · have := hp j e
      have := (h3.lt j e').2
      omega
/-- one more -/
theorem FolS.more (h : FolS N B V b us T wr tv) {ob : Obj} {g : Option Addr × Nat × Nat} {f : Fl} (h1 : SRow wr (encSl g) f) (h2 : SafeV N wr (encSl g)) {gs : List (Option Addr × Nat × Nat)} (hot : wr.ownsRow N 35 1 tv T.length (gs.map encSl)) (hrt : Reads N wr gs T)
    (hown : w'.ownsRow N 35 1 tv' (T.length + 1) (gs.map encSl ++ [encSl g])) (hg : (wr.alloc ob).grownBy w' tv.ownBlock) (hp : tv'.ownBlock = tv.ownBlock ∨ tv'.ownBlock = some (wr.heap.size + 1)) : FolS N B V b us (T ++ [f]) w' tv' := by
  have hk : Kept (fun j => tv.ownBlock = some j) wr w' := ((Kept.refl _ wr).alloc _).trans (kept_grown hg)
  have hs : Spares N wr (fun j => tv.ownBlock = some j) := spares_own hot (Nat.le_refl _) (by decide) (by decide)
  have hl : gs.length = T.length := by have := hot.1; simpa using this
  refine h.tell (gs := gs ++ [g]) hk ?_ ((hrt.kept hk hs).snoc hl (h1.kept h2 hk hs) (h2.kept hk hs)) ?_
  · rw [List.map_append]
    exact owns_n hown (by simp)
  · rcases hp with e | e
    · exact Or.inl e
    · refine Or.inr (fun j hj => ?_)
      rw [e] at hj
      injection hj with hj
      omega
/-- flags told anew, in place -/
theorem FolS.flag {p q m : Nat} {g : Option Addr × Nat × Nat} {f : Fl} (h : FolS N B V b us T wr (.slice (some ⟨p, 0, none⟩) T.length q)) (hm : m < T.length) (h1 : SRow wr (encSl g) f) (h2 : SafeV N wr (encSl g)) : FolS N B V b us (T.set m f) (wr.setCell ⟨p, m, none⟩ (encSl g)) (.slice (some ⟨p, 0, none⟩) T.length q) := by
  obtain ⟨gs, h5, h6⟩ := h.ht
  have hk : Kept (fun j => (Value.slice (some ⟨p, 0, none⟩) T.length q).ownBlock = some j) wr (wr.setCell ⟨p, m, none⟩ (encSl g)) := by
    have h0 : Kept (fun j => j = p) wr (wr.setCell ⟨p, m, none⟩ (encSl g)) := Kept.setB (Kept.refl _ wr) _
    exact h0.mono (fun j _ e => by subst e; rfl)
  have hs : Spares N wr (fun j => (Value.slice (some ⟨p, 0, none⟩) T.length q).ownBlock = some j) := spares_own h5 (Nat.le_refl _) (by decide) (by decide)
  have hl : gs.length = T.length := by have := h5.1; simpa using this
  have hst := (h5.stored m (encSl g)).1
  rw [← List.map_set] at hst
  refine h.tell (gs := gs.set m g) hk (owns_n hst (by simp)) (fun i f' hf' => ?_) (Or.inl rfl)
  rw [List.getElem?_set] at hf' ⊢
  split at hf'
  · rename_i hik
    subst hik
    have hmg : m < gs.length := by omega
    rw [if_pos rfl, if_pos hmg]
    cases hf'
    exact ⟨g, rfl, h1.kept h2 hk hs, h2.kept hk hs⟩
  · rename_i hik
    rw [if_neg hik]
    exact (h6.kept hk hs) i f' hf'
/-- one is gone -/
theorem FolS.gone (h : FolS N B V b us T wr tv) {m : Nat} {gs : List (Option Addr × Nat × Nat)} (hb : Below wr.heap.size wr w') (hrt : Reads N wr gs T) (ho : w'.ownsRow wr.heap.size 35 1 tv' (T.eraseIdx m).length ((gs.eraseIdx m).map encSl)) (hN : N ≤ wr.heap.size) : FolS N B V b us (T.eraseIdx m) w' tv' :=
  h.tell (gs := gs.eraseIdx m) (kept_below hb) (owns_less ho hN) ((hrt.below hb).erase m) (Or.inr fun j e => (ho.lt j e).1)
/-- the row of news, too -/
structure FolN (N : Nat) (B V : Nat) (b : BoxP) (us : Us) (T : List Fl) (wr : World) (tv nv : Value) (vs : NV) (ns : List Nw) : Prop where
  s : FolS N B V b us T wr tv
  o : wr.ownsRow N 103 3 nv vs.length (cellsN vs)
  r : ReadsN N wr vs ns
theorem FolN.below {nv : Value} {vs : NV} {ns : List Nw} (h : FolN N B V b us T wr tv nv vs ns) (hb : Below wr.heap.size wr w') : FolN N B V b us T w' tv nv vs ns := ⟨h.s.below hb, owns_below h.o hb, h.r.below hb⟩
theorem FolN.of {nv : Value} {vs : NV} {ns : List Nw} (h : FolN N B V b us T wr tv nv vs ns) (hk : Kept (fun j => tv.ownBlock = some j) wr w') (h' : FolS N B V b us' T' w' tv') : FolN N B V b us' T' w' tv' nv vs ns := by
  obtain ⟨gs, h5, h6⟩ := h.s.ht
  refine ⟨h', owns_kept h.o hk (fun j e e' => ?_), h.r.kept hk (spares_own h5 (Nat.le_refl _) (by decide) (by decide))⟩
  obtain ⟨c, hh⟩ := owns_at h.o e
  exact owns_not h5 hh (by decide) e'
theorem FolN.flag {nv : Value} {vs : NV} {ns : List Nw} {p q m : Nat} {g : Option Addr × Nat × Nat} {f : Fl} (h : FolN N B V b us T wr (.slice (some ⟨p, 0, none⟩) T.length q) nv vs ns) (hm : m < T.length) (h1 : SRow wr (encSl g) f) (h2 : SafeV N wr (encSl g)) (hN : N ≤ wr.heap.size) : FolN N B V b us (T.set m f) (wr.setCell ⟨p, m, none⟩ (encSl g)) (.slice (some ⟨p, 0, none⟩) T.length q) nv vs ns ∧ Below N wr (wr.setCell ⟨p, m, none⟩ (encSl g)) := by
  have h0 : Kept (fun j => j = p) wr (wr.setCell ⟨p, m, none⟩ (encSl g)) := Kept.setB (Kept.refl _ wr) _
  obtain ⟨gs, h5, h6⟩ := h.s.ht
  exact ⟨h.of (h0.mono (fun j _ e => by subst e; rfl)) (h.s.flag hm h1 h2), h0.below hN (fun j e => by subst e; exact (h5.lt _ rfl).1)⟩
theorem FolN.more {nv : Value} {vs : NV} {ns : List Nw} (h : FolN N B V b us T wr tv nv vs ns) (hN : N ≤ wr.heap.size) {ob : Obj} {g : Option Addr × Nat × Nat} {f : Fl} (h1 : SRow wr (encSl g) f) (h2 : SafeV N wr (encSl g)) {gs : List (Option Addr × Nat × Nat)} (hot : wr.ownsRow N 35 1 tv T.length (gs.map encSl)) (hrt : Reads N wr gs T)
    (hown : w'.ownsRow N 35 1 tv' (T.length + 1) (gs.map encSl ++ [encSl g])) (hg : (wr.alloc ob).grownBy w' tv.ownBlock) (hp : tv'.ownBlock = tv.ownBlock ∨ tv'.ownBlock = some (wr.heap.size + 1)) : FolN N B V b us (T ++ [f]) w' tv' nv vs ns ∧ Kept (fun j => tv.ownBlock = some j) wr w' ∧ Below N wr w' := by
  have hk : Kept (fun j => tv.ownBlock = some j) wr w' := ((Kept.refl _ wr).alloc _).trans (kept_grown hg)
  exact ⟨h.of hk (h.s.more h1 h2 hot hrt hown hg hp), hk, hk.below hN (fun j e => (hot.lt j e).1)⟩
theorem FolN.gone {nv : Value} {vs : NV} {ns : List Nw} (h : FolN N B V b us T wr tv nv vs ns) {m : Nat} {gs : List (Option Addr × Nat × Nat)} (hb : Below wr.heap.size wr w') (hrt : Reads N wr gs T) (ho : w'.ownsRow wr.heap.size 35 1 tv' (T.eraseIdx m).length ((gs.eraseIdx m).map encSl)) (hN : N ≤ wr.heap.size) : FolN N B V b us (T.eraseIdx m) w' tv' nv vs ns :=
  h.of (kept_below hb) (h.s.gone hb hrt ho hN)
end
set_option maxRecDepth 100000 in
set_option maxHeartbeats 2000000 in
theorem uids_any (N V : Nat) (uv fv : Value) (us : Us) (w : World) (hv : ViewS N w V uv fv us) (hl : us.length ≤ 1000000) :
    Calls Tryz.prog 14 #[.pointer (some ⟨V, 0, none⟩)] w fun e w' => ∃ v', e = .returned v' ∧ w'.ownsRow w.heap.size 3 1 v' us.length ((us.map (·.1)).map (Value.int .i64)) ∧ Below w.heap.size w w' := by
  obtain ⟨gs, h1, h2, h3, h4⟩ := hv
  have cC := cloneRowI uv us.length N (us.map (·.1)) w h2 hl
  have d0 := (two_cells h1).1
  obtain ⟨ua, un, uc, rfl⟩ : ∃ a n c, uv = .slice a n c := by
    rcases h2.2 with ⟨e0, _⟩ | ⟨g, c', cur, e0, _⟩
    · exact ⟨_, _, _, e0⟩
    · exact ⟨_, _, _, e0⟩
  clear h1 h2 h3 h4
  go_enter Tryz.func14, Tryz.ntmps14
  go_wp2_with (go_at_call 40; (with_reducible refine cC.mono ?_); rintro e w2 ⟨v', rfl, ho, hb⟩)
  go_ret
  exact ⟨v', rfl, ho, hb⟩
end Go.Proofs.YteclajckkjocnaaGreatDoor
