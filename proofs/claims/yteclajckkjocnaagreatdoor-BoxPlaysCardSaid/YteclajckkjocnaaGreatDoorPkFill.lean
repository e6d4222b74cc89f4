/- Plain laws of BoxPlays: what one post does to a box and to how somebody sees it; what holds of both behind each. No program in sight. BoxPlays' state: the program's box and view, the reference's box and view, by their cells; what each step leaves of it. No condition beyond those each names. The walk over the statement's own fill. No condition beyond those it names. -/
import Derived.Test.YteclajckkjocnaaGreatDoorRows
import Derived.Below
import Derived.Laws.OwnMore
import Derived.Lib.UnsafeStr
import Derived.Lib.ConvBytes
import Derived.IntWalk
import Derived.Test.YteclajckkjocnaaGreatDoorPkBytes
import Derived.Test.YteclajckkjocnaaGreatDoorPkPFollow
import Derived.Test.YteclajckkjocnaaGreatDoorPkFolA
import Derived.Test.YteclajckkjocnaaGreatDoorPkVKnow
import Derived.Test.YteclajckkjocnaaGreatDoorPkBoxY
namespace Go.Proofs.YteclajckkjocnaaGreatDoor
open Go.RowKit Go.Shelf Go.Sort
set_option linter.unusedSimpArgs false
/-- a choice among two -/
def bitU (a : Int) : Nat := ((IntKind.u64.wrap a).tmod 2).toNat
theorem bitU_val (a : Int) : (IntKind.u64.wrap a).tmod 2 = (bitU a : Int) ∧ bitU a < 2 := by
  have h0 : 0 ≤ IntKind.u64.wrap a := by
    simp only [IntKind.wrap, IntKind.bits, IntKind.signed]
    exact Int.emod_nonneg _ (by decide)
  have h1 := Int.tmod_nonneg 2 h0
  have h2 := Int.tmod_lt_of_pos (IntKind.u64.wrap a) (show (0 : Int) < 2 by decide)
  unfold bitU
  omega
/-- the text that a post puts into a box -/
def textP (x : Pst) (lg : Bool) : List UInt8 := if lg then List.replicate (2000 + bitU x.n) 120 else x.text
theorem textP_len (x : Pst) (lg : Bool) (h : x.text.length ≤ 300) : (textP x lg).length ≤ 1000000 := by
  unfold textP
  split
  · rw [List.length_replicate]; have := (bitU_val x.n).2; omega
  · omega
/-- what a post does -/
def playB (b : BoxP) (us : Us) (x : Pst) (lg : Bool) : BoxP × Us :=
  if x.what = 0 then ((appB b x.flags x.n (textP x lg)).2, us)
  else if x.what = 1 then ((flagB b x.uid x.n x.flags).2, us)
  else if x.what = 2 then ((expB b (holP x.n)).2, us)
  else if x.what = 3 then (b, (lookF b.ls us true).2)
  else if x.what = 4 then (b, (lookF b.ls us false).2)
  else if x.what = 5 then (b, knowF us x.uid x.flags)
  else (b, us)
structure PlayI (b : BoxP) (us : Us) (k : Nat) : Prop where
  r : rightB b = true
  s : Sees b us
  n : us.length ≤ 60 * (k + 1)
  f : ∀ u ∈ us, u.2.length ≤ 100
theorem right_short {b : BoxP} (h : rightB b = true) : ∀ x ∈ b.ls, x.flags.length ≤ 12 := fun x hx => by
  have := (set_ok (right_flags h hx)).2.2
  omega
theorem play_open {b : BoxP} (h : rightB b = true) : PlayI b (b.ls.map fun x => (x.uid, x.flags)) 0 :=
  ⟨h, sees_open h, by rw [List.length_map]; have := right_len h; omega, fun u hu => by
    obtain ⟨y, hy, rfl⟩ := List.mem_map.1 hu
    have := right_short h y hy
    show y.flags.length ≤ 100
    omega⟩
theorem PlayI.more {b : BoxP} {us : Us} {k : Nat} (h : PlayI b us k) : PlayI b us (k + 1) := ⟨h.r, h.s, by have := h.n; omega, h.f⟩
theorem exp_stays (b : BoxP) (hol : Int → Bool) : Stays b (expB b hol).2 False := ⟨Or.inl rfl, fun h => h.elim, fun y hy => Or.inl ⟨y, (List.mem_filter.1 hy).1, rfl, rfl⟩⟩
theorem know_mem {us : Us} {uid : Int} {f : List (List UInt8)} {u : Int × List (List UInt8)} (hu : u ∈ knowF us uid f) : ∃ v ∈ us, v.1 = u.1 ∧ (u.2 = f ∨ u.2 = v.2) := by
  obtain ⟨v, hv, rfl⟩ := List.mem_map.1 hu
  refine ⟨v, hv, ?_⟩
  split
  · exact ⟨rfl, Or.inl rfl⟩
  · exact ⟨rfl, Or.inr rfl⟩
theorem sees_know {b : BoxP} {us : Us} (h : Sees b us) (uid : Int) (f : List (List UInt8)) : Sees b (knowF us uid f) := by
  have hp : ∀ l : Us, l.Pairwise (fun x y => x.1 < y.1) ↔ (l.map (·.1)).Pairwise (· < ·) := fun l => by rw [List.pairwise_map]
  refine ⟨(hp _).2 (by rw [know_fst]; exact (hp _).1 h.rise), fun u hu => ?_, fun y hy => ?_⟩
  · obtain ⟨v, hv, e, _⟩ := know_mem hu
    rw [← e]; exact h.low v hv
  · rcases h.all y hy with ⟨u, hu, e⟩ | h'
    · have hm : u.1 ∈ (knowF us uid f).map (·.1) := by rw [know_fst]; exact List.mem_map_of_mem hu
      obtain ⟨v, hv, e2⟩ := List.mem_map.1 hm
      exact Or.inl ⟨v, hv, e2.trans e⟩
    · exact Or.inr (fun u hu => by
        obtain ⟨v, hv, e, _⟩ := know_mem hu
        rw [← e]; exact h' v hv)
theorem rise_nodup {b : BoxP} {us : Us} (h : Sees b us) : (us.map (·.1)).Nodup := by
  rw [List.nodup_iff_pairwise_ne, List.pairwise_map]
  exact h.rise.imp (fun h e => by omega)
theorem play_look {b : BoxP} {us : Us} {k : Nat} (h : PlayI b us k) (g : Bool) : PlayI b (lookF b.ls us g).2 (k + 1) :=
  ⟨h.r, sees_look h.r h.s g, by have := look_len h.r h.s g; have := right_len h.r; have := h.n; omega, look_short h.r h.s g h.f (fun x hx => by have := right_short h.r x hx; omega)⟩
theorem play_step {b : BoxP} {us : Us} {k : Nat} (h : PlayI b us k) (x : Pst) (lg : Bool) (hx : x.flags.length ≤ 100) : PlayI (playB b us x lg).1 (playB b us x lg).2 (k + 1) := by
  have hm := h.more
  unfold playB
  split
  · refine ⟨right_app h.r _ _ _, ?_, hm.n, hm.f⟩
    rcases app_stays b x.flags x.n (textP x lg) with ⟨_, _, e⟩ | ⟨_, e⟩
    · show Sees (appB _ _ _ _).2 _
      rw [e]; exact h.s
    · exact sees_post h.s e
  · split
    · exact ⟨right_flag h.r _ _ _, sees_post h.s (flag_stays b x.uid x.n x.flags).2.1, hm.n, hm.f⟩
    · split
      · exact ⟨right_exp h.r _, sees_post h.s (exp_stays b _), hm.n, hm.f⟩
      · split
        · exact play_look h true
        · split
          · exact play_look h false
          · split
            · refine ⟨h.r, sees_know h.s _ _, by show (knowF _ _ _).length ≤ _; rw [know_len]; exact hm.n, fun u hu => ?_⟩
              obtain ⟨v, hv, _, e | e⟩ := know_mem hu
              · rw [e]; exact hx
              · rw [e]; exact h.f v hv
            · exact hm
end Go.Proofs.YteclajckkjocnaaGreatDoor
namespace Go.Proofs.YteclajckkjocnaaGreatDoor
open Go.RowKit Go.Shelf Go.Sort
set_option linter.unusedSimpArgs false
set_option linter.unusedSimpArgs false
/-- no letters of a box lie in a block -/
def Off (w : World) (B : Nat) (o : Option Nat) : Prop := ∀ lv, LvOf w B lv → ∀ a n c, lv = .slice (some a) n c → 0 < c → o ≠ some a.block
theorem Off.same {w w' : World} {B : Nat} {o : Option Nat} (h : Off w B o) (e : w'.heap[B]? = w.heap[B]?) : Off w' B o := fun lv ⟨a, c, T, fz, hh⟩ => h lv ⟨a, c, T, fz, e ▸ hh⟩
theorem Off.fresh {w w' : World} {B : Nat} {o : Option Nat} (h : Off w B o) (hl : ∃ lv, LvOf w B lv) (hf : FreshL w w' B) (ho : ∀ j, o = some j → j < w.heap.size) : Off w' B o := fun lv' h' a n c hj hc e => by
  obtain ⟨lv, hl⟩ := hl
  rcases hf lv lv' hl h' with rfl | hn
  · exact h _ hl a n c hj hc e
  · have := hn a.block (by rw [hj]; rfl)
    have := ho _ e
    omega
theorem Off.new {w w' : World} {B : Nat} {o : Option Nat} (hl : ∀ lv, LvOf w B lv → ∀ a n c, lv = .slice (some a) n c → 0 < c → a.block < w.heap.size) (e : w'.heap[B]? = w.heap[B]?) (ho : ∀ j, o = some j → w.heap.size ≤ j) : Off w' B o := fun lv ⟨a, c, T, fz, hh⟩ x n d hj hc e' => by
  have := hl lv ⟨a, c, T, fz, e ▸ hh⟩ x n d hj hc
  have := ho _ e'
  omega
/-- the state: b, c: the boxes; us, vs: what is seen -/
structure PlayS (N : Nat) (w : World) (B C V U : Nat) (b c : BoxP) (us vs : Us) : Prop where
  hb : BoxS N w B b
  hc : RBoxS N w C c
  hv : ∃ uv fv, ViewS N w V uv fv us
  hu : ∃ lu, RVS N w U lu vs ∧ Off w B lu.ownBlock ∧ Off w C lu.ownBlock
section
variable {N : Nat} {w w' : World} {B C V U : Nat} {b b' c c' : BoxP} {us us' vs vs' : Us}
theorem BoxS.obj' (h : BoxS N w B b) : ∃ lv, w.heap[B]? = some (.cells #[.int .i64 b.valid, .int .i64 b.next, lv] 28 (0, 0)) := let ⟨lv, _, h, _⟩ := h; ⟨lv, h⟩
/-- a view of which no block is written -/
theorem ViewS.kept {S : Nat → Prop} {uv fv : Value} (h : ViewS N w V uv fv us) (hk : Kept S w w') (hs : Spares N w S) (hV : ¬ S V) (hu : ∀ j, uv.ownBlock = some j → ¬ S j) (hf : ∀ j, fv.ownBlock = some j → ¬ S j) : ViewS N w' V uv fv us := by
  obtain ⟨gs, h1, h2, h3, h4⟩ := h
  exact ⟨gs, hk.obj h1 hV, owns_kept h2 hk hu, owns_kept h3 hk hf, h4.kept hk hs⟩
theorem ViewS.only {o : Option Nat} {uv fv : Value} (h : ViewS N w V uv fv us) (hk : OnlySl o w w') (ho : ∀ j, o = some j → ∃ cur fz, w.heap[j]? = some (.cells cur 51 fz)) : ViewS N w' V uv fv us := by
  obtain ⟨gs, h1, h2, h3, h4⟩ := h
  have hne : ∀ {k : Nat} {cs : Array Value} {T : TypeId} {fz : Nat × Nat}, w.heap[k]? = some (.cells cs T fz) → T ≠ 51 → ¬ o = some k := fun hk' hT e => by
    obtain ⟨cur, fz', hh⟩ := ho _ e
    rw [hk'] at hh
    cases hh
    exact hT rfl
  have hsame : ∀ {e : TypeId} {sz n : Nat} {v : Value} {xs : List Value}, w.ownsRow N e sz v n xs → e ≠ 51 → w'.ownsRow N e sz v n xs := fun hv he => owns_same hv (fun j ob hj hob => hk.k.obj hj (by
    obtain ⟨cs, fz, rfl⟩ := hob
    exact hne hj he))
  exact ⟨gs, hk.k.obj h1 (hne h1 (by decide)), hsame h2 (by decide), hsame h3 (by decide), fun i f hf => by
    obtain ⟨g, e1, e2, e3⟩ := h4 i f hf
    exact ⟨g, e1, e2.only hk, e3.only hk⟩⟩
theorem RVS.kept {S : Nat → Prop} {lu : Value} (h : RVS N w U lu vs) (hk : Kept S w w') (hs : Spares N w S) (hU : ¬ S U) (hl : ∀ j, lu.ownBlock = some j → ¬ S j) : RVS N w' U lu vs := by
  obtain ⟨zs, h1, h2, h3, h4⟩ := h
  refine ⟨zs, hk.obj h1 hU, owns_kept h2 hk hl, h3, fun z hz => ⟨(h4 z hz).1.kept (h4 z hz).2 hk hs, (h4 z hz).2.kept hk hs⟩⟩
theorem RVS.lt {lu : Value} (h : RVS N w U lu vs) {j : Nat} (hj : lu.ownBlock = some j) : j < w.heap.size := by
  obtain ⟨zs, _, h2, _⟩ := h
  exact (h2.lt j hj).2
theorem RVS.ty {lu : Value} (h : RVS N w U lu vs) {j : Nat} (hj : lu.ownBlock = some j) : ∃ cur fz, w.heap[j]? = some (.cells cur 51 fz) := by
  obtain ⟨zs, _, h2, _⟩ := h
  obtain ⟨cur, hh⟩ := owns_at h2 hj
  exact ⟨cur, _, hh⟩
theorem PlayS.below (h : PlayS N w B C V U b c us vs) (hb : Below w.heap.size w w') : PlayS N w' B C V U b c us vs := by
  obtain ⟨lvb, e1⟩ := h.hb.obj'
  obtain ⟨lvc, e2⟩ := h.hc.obj
  obtain ⟨uv, fv, hv⟩ := h.hv
  obtain ⟨lu, hu, o1, o2⟩ := h.hu
  have hk : Kept (fun _ => False) w w' := kept_below hb
  refine ⟨h.hb.below hb, h.hc.below hb, ⟨uv, fv, hv.kept hk (spares_none N w) id (fun _ _ => id) (fun _ _ => id)⟩, lu, hu.kept hk (spares_none N w) id (fun _ _ => id), o1.same ?_, o2.same ?_⟩
  · rw [e1]; exact below_same hb e1
  · rw [e2]; exact below_same hb e2
theorem PlayS.stepB (h : PlayS N w B C V U b c us vs) (hN : N ≤ B) (hk : Kept (fun k => k = B) w w') (hb : BoxS N w' B b') (hf : FreshL w w' B) : PlayS N w' B C V U b' c us vs := by
  obtain ⟨lvb, e1⟩ := h.hb.obj'
  obtain ⟨lvc, e2⟩ := h.hc.obj
  obtain ⟨uv, fv, hv⟩ := h.hv
  obtain ⟨lu, hu, o1, o2⟩ := h.hu
  have hs : Spares N w (fun k => k = B) := spares_box h.hb.at hN
  have hCB : ¬ C = B := ne_of_obj e2 e1 (fun e => absurd (Obj.cells.inj e).2.1 (by decide))
  refine ⟨hb, h.hc.kept hk hs hCB, ⟨uv, fv, hv.keptB e1 hN hk⟩, lu, ?_, o1.fresh ⟨lvb, _, _, _, _, e1⟩ hf (fun j e => hu.lt e), o2.same (hk.block C (Array.getElem?_eq_some_iff.1 e2).1 hCB)⟩
  have hu' := hu
  obtain ⟨zs, h1, h2, _⟩ := hu'
  exact hu.kept hk hs (ne_of_obj h1 e1 (by intro e; cases e)) (fun j hj e => owns_not h2 e1 (by decide) (e ▸ hj))
theorem PlayS.stepC (h : PlayS N w B C V U b c us vs) (hN : N ≤ C) (hk : Kept (fun k => k = C) w w') (hc : RBoxS N w' C c') (hf : FreshL w w' C) : PlayS N w' B C V U b c' us vs := by
  obtain ⟨lvb, e1⟩ := h.hb.obj'
  obtain ⟨lvc, e2⟩ := h.hc.obj
  obtain ⟨uv, fv, hv⟩ := h.hv
  obtain ⟨lu, hu, o1, o2⟩ := h.hu
  have hs : Spares N w (fun k => k = C) := h.hc.spares hN
  have hBC : ¬ B = C := ne_of_obj e1 e2 (fun e => absurd (Obj.cells.inj e).2.1 (by decide))
  have hv' := hv
  obtain ⟨gs, v1, v2, v3, _⟩ := hv'
  have hu' := hu
  obtain ⟨zs, h1, h2, _⟩ := hu'
  refine ⟨h.hb.kept hk hs hBC, hc, ⟨uv, fv, hv.kept hk hs (ne_of_obj v1 e2 (by intro e; cases e)) (fun j hj e => owns_not v2 e2 (by decide) (e ▸ hj)) (fun j hj e => owns_not v3 e2 (by decide) (e ▸ hj))⟩, lu, hu.kept hk hs (ne_of_obj h1 e2 (by intro e; cases e)) (fun j hj e => owns_not h2 e2 (by decide) (e ▸ hj)), o1.same (hk.block B (Array.getElem?_eq_some_iff.1 e1).1 hBC), o2.fresh ⟨lvc, _, _, _, _, e2⟩ hf (fun j e => hu.lt e)⟩
/-- the program's view is another (its block, or its rows' blocks, are written) -/
theorem PlayS.stepV (h : PlayS N w B C V U b c us vs) (hN : N ≤ V) {uv fv uv' fv' : Value} (hv : ViewS N w V uv fv us) (hk : Kept (fun j => j = V ∨ uv.ownBlock = some j ∨ fv.ownBlock = some j) w w') (hv' : ViewS N w' V uv' fv' us') : PlayS N w' B C V U b c us' vs := by
  obtain ⟨lvb, e1⟩ := h.hb.obj'
  obtain ⟨lvc, e2⟩ := h.hc.obj
  obtain ⟨lu, hu, o1, o2⟩ := h.hu
  have hv0 := hv
  obtain ⟨gs, v1, v2, v3, _⟩ := hv0
  have hs := spares_view v1 hN v2 v3
  have hu' := hu
  obtain ⟨zs, h1, h2, _⟩ := hu'
  have hnot : ∀ {k : Nat} {cs : Array Value} {T : TypeId} {fz : Nat × Nat}, w.heap[k]? = some (.cells cs T fz) → T ≠ 65 → T ≠ 3 → T ≠ 35 → ¬ (k = V ∨ uv.ownBlock = some k ∨ fv.ownBlock = some k) := fun hk' t1 t2 t3 e => by
    rcases e with e | e | e
    · subst e; rw [v1] at hk'; cases hk'; exact t1 rfl
    · exact owns_not v2 hk' t2 e
    · exact owns_not v3 hk' t3 e
  have nB := hnot e1 (by decide) (by decide) (by decide)
  have nC := hnot e2 (by decide) (by decide) (by decide)
  have nU := hnot h1 (by decide) (by decide) (by decide)
  refine ⟨h.hb.kept hk hs nB, h.hc.kept hk hs nC, ⟨uv', fv', hv'⟩, lu, hu.kept hk hs nU (fun j hj => ?_), o1.same (hk.block B (Array.getElem?_eq_some_iff.1 e1).1 nB), o2.same (hk.block C (Array.getElem?_eq_some_iff.1 e2).1 nC)⟩
  obtain ⟨cur, fz, hh⟩ := hu.ty hj
  exact hnot hh (by decide) (by decide) (by decide)
/-- the reference's view has a row of its own -/
theorem PlayS.stepU (h : PlayS N w B C V U b c us vs) (hN : N ≤ U) {lu' : Value} (hk : Kept (fun j => j = U) w w') (hu' : RVS N w' U lu' vs') (hl : ∀ j, lu'.ownBlock = some j → w.heap.size ≤ j) : PlayS N w' B C V U b c us vs' := by
  obtain ⟨lvb, e1⟩ := h.hb.obj'
  obtain ⟨lvc, e2⟩ := h.hc.obj
  obtain ⟨uv, fv, hv⟩ := h.hv
  obtain ⟨lu, hu, o1, o2⟩ := h.hu
  have hu0 := hu
  obtain ⟨zs, h1, h2, _⟩ := hu0
  have hv0 := hv
  obtain ⟨gs, v1, v2, v3, _⟩ := hv0
  have hs : Spares N w (fun j => j = U) := spares_at h1 hN (by decide) (by decide)
  have nB : ¬ B = U := ne_of_obj e1 h1 (by intro e; cases e)
  have nC : ¬ C = U := ne_of_obj e2 h1 (by intro e; cases e)
  have hlt : ∀ {B : Nat} {a d lv : Value} {T : TypeId} {fz : Nat × Nat} {zs : List (Let × Value)}, w.heap[B]? = some (.cells #[a, d, lv] T fz) → XRow N w lv zs → ∀ lv', LvOf w B lv' → ∀ a n c, lv' = .slice (some a) n c → 0 < c → a.block < w.heap.size := fun hh hx lv' hl' a n c hj hc => by
    obtain rfl := lvOf_eq hl' ⟨_, _, _, _, hh⟩
    exact (hx.2.1 a n c hj hc).1
  have hb0 := h.hb
  obtain ⟨lb, zb, b1, _, b3⟩ := hb0
  have hc0 := h.hc
  obtain ⟨lc, zc, c1, _, c3⟩ := hc0
  refine ⟨h.hb.kept hk hs nB, h.hc.kept hk hs nC, ⟨uv, fv, hv.kept hk hs (ne_of_obj v1 h1 (by intro e; cases e)) (fun j hj e => owns_not v2 h1 (by decide) (e ▸ hj)) (fun j hj e => owns_not v3 h1 (by decide) (e ▸ hj))⟩, lu', hu', Off.new (hlt b1 b3) (hk.block B (Array.getElem?_eq_some_iff.1 e1).1 nB) hl, Off.new (hlt c1 c3) (hk.block C (Array.getElem?_eq_some_iff.1 e2).1 nC) hl⟩
/-- flags are written into the reference's view -/
theorem PlayS.stepK (h : PlayS N w B C V U b c us vs) {lu : Value} (hu : RVS N w U lu vs) (o1 : Off w B lu.ownBlock) (o2 : Off w C lu.ownBlock) (hk : OnlySl lu.ownBlock w w') (hu' : RVS N w' U lu vs') : PlayS N w' B C V U b c us vs' := by
  obtain ⟨lvb, e1⟩ := h.hb.obj'
  obtain ⟨lvc, e2⟩ := h.hc.obj
  obtain ⟨uv, fv, hv⟩ := h.hv
  have hne : ∀ {k : Nat} {cs : Array Value} {T : TypeId} {fz : Nat × Nat}, w.heap[k]? = some (.cells cs T fz) → T ≠ 51 → lu.ownBlock ≠ some k := fun hk' hT e => by
    obtain ⟨cur, fz', hh⟩ := hu.ty e
    rw [hk'] at hh
    cases hh
    exact hT rfl
  have nB := hne e1 (by decide)
  have nC := hne e2 (by decide)
  exact ⟨h.hb.only hk nB o1, h.hc.only hk nC o2, ⟨uv, fv, hv.only hk (fun j e => hu.ty e)⟩, lu, hu', o1.same (hk.k.block B (Array.getElem?_eq_some_iff.1 e1).1 nB), o2.same (hk.k.block C (Array.getElem?_eq_some_iff.1 e2).1 nC)⟩
end
end Go.Proofs.YteclajckkjocnaaGreatDoor
namespace Go.Proofs.YteclajckkjocnaaGreatDoor
open Go.RowKit
set_option linter.unusedSimpArgs false
theorem byte_info : (Tryz.prog.info? 5).map (fun i => (i.zero, i.size, i.bytes)) = some (some (.int .u8 0), 1, 1) := by kernel_rfl
def fillL (n k : Nat) : List UInt8 := List.replicate k 120 ++ List.replicate (n - k) 0
theorem fill_step (n k : Nat) (h : k < n) : (Lib.byteCells (fillL n k)).set k (.int .u8 120) = Lib.byteCells (fillL n (k + 1)) := by
  unfold fillL Lib.byteCells
  obtain ⟨m, rfl⟩ : ∃ m, n = k + (m + 1) := ⟨n - k - 1, by omega⟩
  rw [show k + (m + 1) - k = m + 1 by omega, show k + (m + 1) - (k + 1) = m by omega]
  rw [List.map_append, List.set_append_right _ _ (by simp), List.replicate_succ' (n := k)]
  simp [List.replicate_succ]
theorem fill_len (n k : Nat) (h : k ≤ n) : (fillL n k).length = n := by simp [fillL]; omega
set_option maxRecDepth 100000 in
set_option maxHeartbeats 2000000 in
theorem fill_any (n : Nat) (w : World) (hn : n ≤ 100000) :
    Calls Tryz.prog 22 #[.int .i64 (n : Int)] w fun e w' => e = .returned (.string ⟨(List.replicate n (120 : UInt8)).toArray⟩) ∧ Below w.heap.size w w' := by
  obtain ⟨i0, hi, hz0, hz1, hz2⟩ := info_parts byte_info
  obtain ⟨w1, hr, hown, hg⟩ := run_make_full (P := Tryz.prog) w w.heap.size 94 5 i0 (.int .u8 0) 1 Tryz.underlying94 hi hz0 hz1 .i64 .i64 n (by rw [hz2]; omega) (by unfold maxLen; omega) (Nat.le_refl _)
  have hb1 := (Below.refl w.heap.size w).grown hg (Nat.le_refl _) (fun k h => by cases h)
  have e0 : (madeCells (Value.int .u8 0).cells (n * 1)).toList = Lib.byteCells (fillL n 0) := by
    rw [Nat.mul_one]
    show (madeCells #[.int .u8 0] n).toList = _
    rw [toList_madeCells_one]
    simp [fillL, Lib.byteCells]
  rw [e0] at hown
  clear e0
  go_enter Tryz.func22, Tryz.ntmps22
  go_wp2_with fail
  go_loopg [4] n (fun g s4 wr => ∃ (k : Nat), k + g = n ∧ s4 = .int .i64 k ∧ wr.ownsRow w.heap.size 5 1 (.slice (some ⟨w.heap.size, 0, none⟩) n n) n (Lib.byteCells (fillL n k)) ∧ Below w.heap.size w wr)
  case atStart => exact ⟨0, by omega, rfl, hown, hb1⟩
  case round =>
    obtain ⟨k, hk, rfl, hown, hbr⟩ := hrel
    by_cases hlt : k < n
    · obtain ⟨g', rfl⟩ : ∃ g', gk = g' + 1 := ⟨gk - 1, by omega⟩
      obtain ⟨c, hc⟩ : ∃ c, (fillL n k)[k]? = some c := ⟨_, List.getElem?_eq_getElem (by rw [fill_len n k (by omega)]; exact hlt)⟩
      have c1 : wr.cell? ⟨w.heap.size, k, none⟩ = some (.int .u8 (c.toNat : Int)) := (hown.cellAt k (by omega)).trans (by simp [Lib.byteCells, hc])
      have f1 := hown.frozenAt k
      have o2 := (hown.stored k (.int .u8 120)).1
      rw [fill_step n k hlt] at o2
      have b2 := hbr.setCell (p := ⟨w.heap.size, k, none⟩) (Nat.le_refl _) (.int .u8 120)
      clear hc
      go_wp2_with fail
      go_roundg g'
      case measure => omega
      case rel => exact ⟨k + 1, by omega, by go_num, o2, b2⟩
    · have hkn : k = n := by omega
      have e1 : fillL n k = List.replicate n 120 := by rw [hkn]; simp [fillL]
      rw [e1] at hown
      have hro := rowAt_of_owns (xs := Lib.byteCells (List.replicate n (120 : UInt8))) hown
      have hcv := run_bytes_text (P := Tryz.prog) (l := List.replicate n 120) hro 94 9 5 Tryz.underlying94 Tryz.underlying5 Tryz.underlying9
      clear e1 hown hro
      go_wp2_with fail
      go_ret
      exact ⟨rfl, hbr⟩
end Go.Proofs.YteclajckkjocnaaGreatDoor
