/- The walks over the law's letters and posts. Condition: flags.system and errors.errorType lie as the program's text lays them. The walk over the law's posts: looks; all posts. Condition: flags.system and errors.errorType lie as the program's text lays them. -/
import Derived.Test.YteclajckkjocnaaGreatDoorPkRFlagC
import Derived.Test.YteclajckkjocnaaGreatDoorPkRBoxG
import Derived.Test.YteclajckkjocnaaGreatDoorPkTell
import Derived.Test.YteclajckkjocnaaGreatDoorPkRVieD
import Derived.Test.YteclajckkjocnaaGreatDoorPkRNews
import Derived.Test.YteclajckkjocnaaGreatDoorPkRBoxH
import Derived.Test.YteclajckkjocnaaGreatDoorPkFill
namespace Go.Proofs.YteclajckkjocnaaGreatDoor
open Go.RowKit Go.Shelf Go.Sort
set_option linter.unusedSimpArgs false
set_option linter.unusedSimpArgs false
def letF (x : Let) : Bool := textsF x.flags && decide (x.text.length ≤ 300)
/-- letters are short enough to be held -/
def lettersF (l : List Let) : Bool := decide (l.length ≤ 70) && l.all letF
/-- letters' flags and texts, by their cells -/
def LCells (w : World) (ao : Option Addr) (l : List Let) : Prop := ∀ (j : Nat) (x : Let), l[j]? = some x → ∃ b off fv, ao = some ⟨b, off, none⟩ ∧ b < w.heap.size ∧ SRow w fv x.flags ∧ w.cell? ⟨b, off + j * 4 + 1, none⟩ = some fv ∧ w.cell? ⟨b, off + j * 4 + 3, none⟩ = some (.string ⟨x.text.toArray⟩)
theorem lcells_of {w : World} {ao : Option Addr} {cap : Nat} {zs : List (Let × Value)} (h : ZRow w (.slice ao zs.length cap) zs) : LCells w ao (zs.map (·.1)) := fun j x hj => by
  rw [List.getElem?_map] at hj
  obtain ⟨z, hz, rfl⟩ := Option.map_eq_some_iff.1 hj
  obtain ⟨ao', cap', e, _, _, hs, hc⟩ := h
  have hg := fun i (hi : i < 4) => cellsL_get zs j i hi
  have e1 := hg 1 (by omega)
  have e3 := hg 3 (by omega)
  rw [hz] at e1 e3
  obtain ⟨b, off, e4, e5, e6⟩ := hc _ _ e1
  obtain ⟨b', off', f4, f5, f6⟩ := hc _ _ e3
  cases e
  rw [e4] at f4
  cases f4
  exact ⟨b, off, z.2, e4, e5, hs z (List.mem_of_getElem? hz), e6, f6⟩
set_option maxRecDepth 100000 in
set_option maxHeartbeats 4000000 in
theorem letters_any (v : Value) (zs : List (Let × Value)) (l : List Let) (w : World) (hv : ZRow w v zs) (hl : zs.map (·.1) = l) (ht : ∀ x ∈ l, (∀ t ∈ x.flags, t.length ≤ 9223372036854775807) ∧ x.text.length ≤ 9223372036854775807) :
    Calls Tryz.prog 4 #[v] w fun e w' => e = .returned (.bool (lettersF l)) ∧ Below w.heap.size w w' := by
  obtain ⟨ao, cap, rfl, hcap, ⟨hcm, _⟩, _⟩ := id hv
  have hcell := lcells_of hv
  rw [hl] at hcell
  have hll : zs.length = l.length := by rw [← hl, List.length_map]
  rw [hll] at hcap ⊢
  have HC := Lib.hid hcell
  have HT := Lib.hid ht
  obtain ⟨R, hR⟩ : ∃ R, lettersF l = R := ⟨_, rfl⟩
  rw [hR]
  clear hcell ht hv hl hll
  by_cases h40 : (70 : Int) < (l.length : Int)
  · have hX : R = false := by
      rw [← hR]; unfold lettersF
      rw [decide_eq_false (by omega)]; rfl
    subst hX
    clear hR
    go_enter Tryz.func4, Tryz.ntmps4
    go_wp2_with fail
    go_ret
    exact ⟨rfl, Below.refl _ _⟩
  · have HR : Hid (R = (l.drop 0).all letF) := by
      show _ = _
      rw [← hR]; unfold lettersF
      rw [decide_eq_true (by omega)]; rfl
    clear hR
    go_enter Tryz.func4, Tryz.ntmps4
    go_wp2_with fail
    go_loopg [3] l.length (fun g3 s3 wr => ∃ k : Nat, k + g3 = l.length ∧ s3 = .int .i64 (k : Int) ∧ Below w.heap.size w wr ∧ Hid (R = (l.drop k).all letF))
    case atStart => exact ⟨0, by omega, rfl, Below.refl _ _, HR.out⟩
    case round =>
      obtain ⟨k, hk, rfl, hbr, HK⟩ := hrel
      clear HR
      by_cases hlt : k < l.length
      · obtain ⟨g', rfl⟩ : ∃ g', gk = g' + 1 := ⟨gk - 1, by omega⟩
        obtain ⟨x, hx⟩ : ∃ x, l[k]? = some x := ⟨l[k], List.getElem?_eq_getElem hlt⟩
        obtain ⟨b, off, fv, rfl, hb, hS, c3, c4⟩ := HC.out k x hx
        have d3 := (hbr.cell (p := ⟨b, off + k * 4 + 1, none⟩) hb).trans c3
        have d4 := (hbr.cell (p := ⟨b, off + k * 4 + 3, none⟩) hb).trans c4
        have hbW : b < wr.heap.size := Nat.lt_of_lt_of_le hb hbr.size
        obtain ⟨hx1, hx2⟩ := HT.out x (List.mem_of_getElem? hx)
        have hts := text_size x.text
        have cT := ltexts_any fv x.flags wr (hS.below hbr) hx1
        have hdr : l.drop k = x :: l.drop (k + 1) := by
          rw [List.drop_eq_getElem_cons hlt]
          rw [List.getElem?_eq_getElem hlt] at hx
          rw [Option.some.inj hx]
        have hK := HK.out
        rw [hdr, List.all_cons] at hK
        unfold letF at hK
        obtain ⟨fa, fn, fc, rfl⟩ : ∃ a n c, fv = .slice a n c := by
          obtain ⟨ao, cap, h, _⟩ := hS
          exact ⟨_, _, _, h⟩
        have hkz : (k : Int) < (l.length : Int) := by omega
        clear hS hx1
        cases hT : textsF x.flags with
        | false =>
          have hX : R = false := by rw [hK, hT]; rfl
          subst hX
          rw [hT] at cT
          clear hK HK hdr hx hT
          go_wp2_with (go_at_call 9; (with_reducible refine cT.mono ?_); rintro e w2 ⟨rfl, h⟩)
          go_ret
          exact ⟨rfl, hbr.trans (h.mono hbr.size)⟩
        | true =>
          rw [hT] at cT
          by_cases h300 : (300 : Int) < (x.text.length : Int)
          · have hX : R = false := by rw [hK, hT, decide_eq_false (by omega)]; rfl
            subst hX
            clear hK HK hdr hx hT
            go_wp2_with (go_at_call 9; (with_reducible refine cT.mono ?_); rintro e w2 ⟨rfl, h⟩; have d4 := (h.cell (p := ⟨b, off + k * 4 + 3, none⟩) hbW).trans d4)
            go_ret
            exact ⟨rfl, hbr.trans (h.mono hbr.size)⟩
          · have HK2 : Hid (R = (l.drop (k + 1)).all letF) := by show _ = _; rw [hK, hT, decide_eq_true (by omega)]; rfl
            clear hK HK hdr hx hT
            go_wp2_with (go_at_call 9; (with_reducible refine cT.mono ?_); rintro e w2 ⟨rfl, h⟩; have d4 := (h.cell (p := ⟨b, off + k * 4 + 3, none⟩) hbW).trans d4)
            go_roundg g'
            case measure => omega
            case rel => exact ⟨k + 1, by omega, by go_num, hbr.trans (h.mono hbr.size), HK2.out⟩
      · have hX : R = true := by rw [HK.out, List.drop_eq_nil_of_le (by omega)]; rfl
        subst hX
        clear HK
        go_wp2_with fail
        go_ret
        exact ⟨rfl, hbr⟩
def pstL (x : Pst) (fv : Value) (lg : Bool) : Array Value := #[.int .i64 x.what, .int .i64 x.uid, .int .i64 x.n, fv, .string ⟨x.text.toArray⟩, .bool lg]
theorem six_at {w : World} {U : Nat} {a b c d e f : Value} {t : TypeId} {fz : Nat × Nat} (h : w.heap[U]? = some (.cells #[a, b, c, d, e, f] t fz)) : w.cell? ⟨U, 0, none⟩ = some a ∧ w.cell? ⟨U, 1, none⟩ = some b ∧ w.cell? ⟨U, 2, none⟩ = some c ∧ w.cell? ⟨U, 3, none⟩ = some d ∧ w.cell? ⟨U, 4, none⟩ = some e ∧ w.cell? ⟨U, 5, none⟩ = some f :=
  ⟨by rw [Lib.cell_of_heap h]; rfl, by rw [Lib.cell_of_heap h]; rfl, by rw [Lib.cell_of_heap h]; rfl, by rw [Lib.cell_of_heap h]; rfl, by rw [Lib.cell_of_heap h]; rfl, by rw [Lib.cell_of_heap h]; rfl⟩
theorem bare_any (o : Option Nat) (w : World) (hE : ErrTy w) : Calls Tryz.prog 25 #[errV o, .int .i64 (errN o)] w fun e w' => e = .returned (.bool true) ∧ Below w.heap.size w w' := by
  cases o with
  | none => exact (bare_nil 0 w).mono (by rintro e w' ⟨rfl, h⟩; exact ⟨by simp, h⟩)
  | some n => exact (bare_err n n w hE).mono (by rintro e w' ⟨rfl, h⟩; exact ⟨by simp, h⟩)
theorem ne_ty {w : World} {j k : Nat} {c d : Array Value} {T T' : TypeId} {f g : Nat × Nat} (hj : w.heap[j]? = some (.cells c T f)) (hk : w.heap[k]? = some (.cells d T' g)) (h : T ≠ T') : j ≠ k := ne_of_obj hj hk (fun e => h (Obj.cells.inj e).2.1)
/-- where a view's blocks lie -/
theorem view_apart {N : Nat} {w : World} {V : Nat} {uv fv : Value} {us : Us} (h : ViewS N w V uv fv us) {k : Nat} {cs : Array Value} {T : TypeId} {fz : Nat × Nat} (hk : w.heap[k]? = some (.cells cs T fz)) (t1 : T ≠ 65) (t2 : T ≠ 3) (t3 : T ≠ 35) : ¬ (k = V ∨ uv.ownBlock = some k ∨ fv.ownBlock = some k) := fun e => by
  obtain ⟨gs, v1, v2, v3, _⟩ := h
  rcases e with e | e | e
  · subst e; rw [v1] at hk; cases hk; exact t1 rfl
  · exact owns_not v2 hk t2 e
  · exact owns_not v3 hk t3 e
theorem view_low {N : Nat} {w : World} {V : Nat} {uv fv : Value} {us : Us} (h : ViewS N w V uv fv us) (hN : N ≤ V) : ∀ k, (k = V ∨ uv.ownBlock = some k ∨ fv.ownBlock = some k) → N ≤ k := fun k e => by
  obtain ⟨gs, v1, v2, v3, _⟩ := h
  rcases e with e | e | e
  · omega
  · exact (v2.lt k e).1
  · exact (v3.lt k e).1
theorem view_spares {N : Nat} {w : World} {V : Nat} {uv fv : Value} {us : Us} (h : ViewS N w V uv fv us) (hN : N ≤ V) : Spares N w (fun j => j = V ∨ uv.ownBlock = some j ∨ fv.ownBlock = some j) := by
  obtain ⟨gs, v1, v2, v3, _⟩ := h
  exact spares_view v1 hN v2 v3
theorem rvs_low {N : Nat} {w : World} {U : Nat} {lu : Value} {us : Us} (h : RVS N w U lu us) : ∀ k, lu.ownBlock = some k → N ≤ k := fun k e => by
  obtain ⟨zs, _, h2, _⟩ := h
  exact (h2.lt k e).1
theorem goneL_len (ls : List Let) (us : Us) : ∀ c, (goneL ls us c).length ≤ c
  | 0 => Nat.le_refl _
  | c + 1 => by
    have := goneL_len ls us c
    unfold goneL
    rw [List.length_append]
    split
    · split
      · simp; omega
      · simp; omega
    · simp; omega
theorem chF_len (ls : List Let) : ∀ (us : Us) (i : Nat), (chF ls i us).length ≤ us.length
  | [], i => Nat.le_refl _
  | u :: r, i => by
    have := chF_len ls r (i + 1)
    show ((if _ then _ else _) ++ chF ls (i + 1) r).length ≤ _
    rw [List.length_append, List.length_cons]
    split <;> simp <;> omega
theorem look_news (ls : List Let) (us : Us) (g : Bool) : (lookF ls us g).1.length ≤ 2 * us.length + 1 := by
  have h1 := goneL_len ls us us.length
  have h2 := chF_len ls (if g then us.filter (foundB ls) else us) 0
  have h3 : (if g then us.filter (foundB ls) else us).length ≤ us.length := by
    split
    · exact List.length_filter_le ..
    · exact Nat.le_refl _
  show (_ ++ _ ++ _ : List Nw).length ≤ _
  rw [List.length_append, List.length_append]
  have h4 : ∀ (p : Prop) [Decidable p] (x : Nw), (if p then [x] else []).length ≤ 1 := fun p _ x => by split <;> simp
  have h5 : (if g then goneL ls us us.length else []).length ≤ us.length := by
    split
    · exact h1
    · simp
  have := h4 ((if g then us.filter (foundB ls) else us).length < (seeF ls ((if g then us.filter (foundB ls) else us).map (nowF ls))).length) ⟨2, ((seeF ls ((if g then us.filter (foundB ls) else us).map (nowF ls))).length : Nat), []⟩
  omega
/-- what posts starts from: the state; the post's flags lie among the arguments -/
structure PostE (w0 : World) (B C V U k : Nat) (b : BoxP) (us : Us) (x : Pst) (fv : Value) (w : World) : Prop where
  S : PlayS w0.heap.size w B C V U b b us us
  I : PlayI b us k
  k : k ≤ 60
  nB : w0.heap.size ≤ B
  nC : w0.heap.size ≤ C
  nV : w0.heap.size ≤ V
  nU : w0.heap.size ≤ U
  y : Below w0.heap.size w0 w
  f : SRow w0 fv x.flags
  fs : SafeV w0.heap.size w0 fv
  l : Short x.flags
  fl : x.flags.length ≤ 100
  t : x.text.length ≤ 300
  G : FlagG w0
  E : ErrTy w0
  u0 : -9223372036854775808 ≤ x.uid
  u1 : x.uid ≤ 9223372036854775807
  n0 : -9223372036854775808 ≤ x.n
  n1 : x.n ≤ 9223372036854775807
theorem PostE.below {w0 w w' : World} {B C V U k : Nat} {b : BoxP} {us : Us} {x : Pst} {fv : Value} (h : PostE w0 B C V U k b us x fv w) (hb : Below w.heap.size w w') : PostE w0 B C V U k b us x fv w' :=
  { h with S := h.S.below hb, y := h.y.trans (hb.mono h.y.size) }
/-- posts that lie in a block of their own stay -/
def PK (w w' : World) : Prop := ∀ (j : Nat) (c : Array Value) (fz : Nat × Nat), w.heap[j]? = some (.cells c 37 fz) → w'.heap[j]? = some (.cells c 37 fz)
theorem PK.trans {a b c : World} (h : PK a b) (k : PK b c) : PK a c := fun j cs fz e => k j cs fz (h j cs fz e)
theorem PK.below {w w' : World} (h : Below w.heap.size w w') : PK w w' := fun _ _ _ e => below_same h e
theorem PlayS.pkB {N : Nat} {w w' : World} {B C V U : Nat} {b c : BoxP} {us vs : Us} (h : PlayS N w B C V U b c us vs) (hk : Kept (fun k => k = B) w w') : PK w w' := fun j cs fz e => by
  obtain ⟨lv, eb⟩ := h.hb.obj'
  exact hk.obj e (ne_ty e eb (by decide))
theorem PlayS.pkC {N : Nat} {w w' : World} {B C V U : Nat} {b c : BoxP} {us vs : Us} (h : PlayS N w B C V U b c us vs) (hk : Kept (fun k => k = C) w w') : PK w w' := fun j cs fz e => by
  obtain ⟨lv, eb⟩ := h.hc.obj
  exact hk.obj e (ne_ty e eb (by decide))
theorem pkV {N : Nat} {w w' : World} {V : Nat} {uv fv : Value} {us : Us} (h : ViewS N w V uv fv us) (hk : Kept (fun j => j = V ∨ uv.ownBlock = some j ∨ fv.ownBlock = some j) w w') : PK w w' := fun j cs fz e => hk.obj e (view_apart h e (by decide) (by decide) (by decide))
theorem pkU {N : Nat} {w w' : World} {U : Nat} {lu : Value} {us : Us} (h : RVS N w U lu us) (hk : Kept (fun j => j = U) w w') : PK w w' := fun j cs fz e => by
  obtain ⟨zs, eu, _⟩ := h
  exact hk.obj e (ne_ty e eu (by decide))
theorem pkK {N : Nat} {w w' : World} {U : Nat} {lu : Value} {us : Us} (h : RVS N w U lu us) (hk : OnlySl lu.ownBlock w w') : PK w w' := fun j cs fz e => hk.k.obj e (fun h' => by
  obtain ⟨cur, fz', hh⟩ := h.ty h'
  rw [e] at hh
  exact absurd (Obj.cells.inj (Option.some.inj hh)).2.1 (by decide))
/-- what posts leaves -/
def PostR (w0 : World) (B C V U : Nat) (b' : BoxP) (us' : Us) (w : World) (e : Ending) (w' : World) : Prop := e = .returned (.bool true) ∧ PlayS w0.heap.size w' B C V U b' b' us' us' ∧ Below w0.heap.size w0 w' ∧ PK w w'
section
variable {w0 : World} {B C V U k : Nat} {b : BoxP} {us : Us} {fv : Value} {w : World} {wh ui nn : Int} {fl : List (List UInt8)} {tx : List UInt8} {lg : Bool}
set_option maxRecDepth 100000 in
set_option maxHeartbeats 8000000 in
theorem posts_app_s (h : PostE w0 B C V U k b us ⟨0, ui, nn, fl, tx⟩ fv w) :
    Calls Tryz.prog 10 #[.pointer (some ⟨B, 0, none⟩), .pointer (some ⟨C, 0, none⟩), .pointer (some ⟨V, 0, none⟩), .pointer (some ⟨U, 0, none⟩), .agg #[.int .i64 0, .int .i64 ui, .int .i64 nn, fv, .string ⟨tx.toArray⟩, .bool false]] w (PostR w0 B C V U (appB b fl nn (textP ⟨0, ui, nn, fl, tx⟩ false)).2 us w) := by
  obtain ⟨fa, fc, hfv⟩ : ∃ fa fc, fv = .slice fa fl.length fc := by
    obtain ⟨ao, cap, e, _⟩ := h.f
    exact ⟨_, _, e⟩
  subst hfv
  have x0 := World.heap_alloc_new w (.cells #[.int .i64 0, .int .i64 ui, .int .i64 nn, .slice fa fl.length fc, .string ⟨tx.toArray⟩, .bool false] 37)
  have h1 := h.below ((Below.refl w.heap.size w).alloc (Nat.le_refl _) (.cells #[.int .i64 0, .int .i64 ui, .int .i64 nn, .slice fa fl.length fc, .string ⟨tx.toArray⟩, .bool false] 37))
  have hp1 := PK.below ((Below.refl w.heap.size w).alloc (Nat.le_refl _) (.cells #[.int .i64 0, .int .i64 ui, .int .i64 nn, .slice fa fl.length fc, .string ⟨tx.toArray⟩, .bool false] 37))
  obtain ⟨w1, hw1⟩ : ∃ w1, w.alloc (.cells #[.int .i64 0, .int .i64 ui, .int .i64 nn, .slice fa fl.length fc, .string ⟨tx.toArray⟩, .bool false] 37) = w1 := ⟨_, rfl⟩
  rw [hw1] at x0 h1 hp1
  have HP1 := Lib.hid hp1
  obtain ⟨k0, k1, k2, k3, k4, k5⟩ := six_at x0
  have HX := Lib.hid x0
  have hf : ∀ W, Below w0.heap.size w0 W → SRow W (.slice fa fl.length fc) fl := fun W hy => h1.f.below hy
  have HF := Lib.hid hf
  have H1 := Lib.hid h1
  clear h h1 x0 hf hp1
  have hT : textP ⟨0, ui, nn, fl, tx⟩ false = tx := rfl
  have hTl := textP_len ⟨0, ui, nn, fl, tx⟩ false H1.out.t
  rw [hT] at hTl ⊢
  clear hT
  go_enter Tryz.func10, Tryz.ntmps10
  go_upto_region 6 with fail
  obtain ⟨w2, hw2⟩ : ∃ w2, w1 = w2 := ⟨_, rfl⟩
  have y2 : Below w1.heap.size w1 w2 := hw2 ▸ Below.refl _ _
  rw [hw2]
  clear hw2 k0 k1 k2 k3 k4 k5
  have h2 := H1.out.below y2
  have x2 := below_same y2 HX.out
  obtain ⟨_, c1, c2, c3, _, _⟩ := six_at x2
  obtain ⟨lvc, ec⟩ := h2.S.hc.obj
  obtain ⟨lvb, eb⟩ := h2.S.hb.obj'
  have nXC : ¬ w.heap.size = C := ne_ty x2 ec (by decide)
  have cA := rapp_any w0.heap.size C b fl (.slice fa fl.length fc) nn tx w2 h2.S.hc h2.nC h2.I.r (HF.out _ h2.y) h2.l hTl
  have cB := fun (W : World) (hS : BoxS w0.heap.size W B b) (hy : Below w0.heap.size w0 W) => app_anyF w0.heap.size B b fl (.slice fa fl.length fc) nn tx W hS h2.nB h2.I.r (HF.out _ hy) h2.l hTl (h2.G.below hy)
  have cC := fun (W : World) (hy : Below w0.heap.size w0 W) => bare_any (errO (appB b fl nn tx).1) W (errTy_below h2.E hy)
  obtain ⟨R, hR⟩ : ∃ R, appB b fl nn tx = R := ⟨_, rfl⟩
  have HR := Lib.hid hR
  rw [hR] at cA
  simp only [hR] at cB cC
  obtain ⟨r, hr⟩ : ∃ r, numA R.1 = r := ⟨_, rfl⟩
  obtain ⟨EV, hEV⟩ : ∃ v, errV (errO R.1) = v := ⟨_, rfl⟩
  obtain ⟨EN, hEN⟩ : ∃ n, errN (errO R.1) = n := ⟨_, rfl⟩
  simp only [hr, hEV, hEN] at cA cB cC
  have H2 := Lib.hid h2; have HX2 := Lib.hid x2
  clear hR hr hEV hEN h2 x2 ec eb
  go_wp2_with (first
    | (go_at_call 23; (with_reducible refine cA.mono ?_); rintro e w3 ⟨rfl, hc3, hk3, hf3⟩; have S3 := H2.out.S.stepC H2.out.nC hk3 hc3 hf3; have q3 := Lib.hid (H2.out.S.pkC hk3); have y3 := H2.out.y.trans (hk3.below H2.out.y.size (fun j e => by rw [e]; exact H2.out.nC)); obtain ⟨_, c1, c2, c3, _, _⟩ := six_at (hk3.obj HX2.out nXC))
    | (go_at_call 24; (with_reducible refine (cB _ S3.hb y3).mono ?_); rintro e w4 ⟨rfl, hb4, hk4, hf4⟩; have S4 := S3.stepB H2.out.nB hk4 hb4 hf4; have q4 := Lib.hid (S3.pkB hk4); have y4 := y3.trans (hk4.below y3.size (fun j e => by rw [e]; exact H2.out.nB)))
    | (go_at_call 25; (with_reducible refine (cC _ y4).mono ?_); rintro e w5 ⟨rfl, h5⟩))
  go_ret
  refine ⟨rfl, ?_, y4.trans (h5.mono y4.size), (HP1.out.trans (PK.below y2)).trans ((q3.out.trans q4.out).trans (PK.below h5))⟩
  rw [HR.out]
  exact S4.below h5
set_option maxRecDepth 100000 in
set_option maxHeartbeats 8000000 in
theorem posts_app_l (h : PostE w0 B C V U k b us ⟨0, ui, nn, fl, tx⟩ fv w) :
    Calls Tryz.prog 10 #[.pointer (some ⟨B, 0, none⟩), .pointer (some ⟨C, 0, none⟩), .pointer (some ⟨V, 0, none⟩), .pointer (some ⟨U, 0, none⟩), .agg #[.int .i64 0, .int .i64 ui, .int .i64 nn, fv, .string ⟨tx.toArray⟩, .bool true]] w (PostR w0 B C V U (appB b fl nn (textP ⟨0, ui, nn, fl, tx⟩ true)).2 us w) := by
  obtain ⟨fa, fc, hfv⟩ : ∃ fa fc, fv = .slice fa fl.length fc := by
    obtain ⟨ao, cap, e, _⟩ := h.f
    exact ⟨_, _, e⟩
  subst hfv
  have x0 := World.heap_alloc_new w (.cells #[.int .i64 0, .int .i64 ui, .int .i64 nn, .slice fa fl.length fc, .string ⟨tx.toArray⟩, .bool true] 37)
  have h1 := h.below ((Below.refl w.heap.size w).alloc (Nat.le_refl _) (.cells #[.int .i64 0, .int .i64 ui, .int .i64 nn, .slice fa fl.length fc, .string ⟨tx.toArray⟩, .bool true] 37))
  have hp1 := PK.below ((Below.refl w.heap.size w).alloc (Nat.le_refl _) (.cells #[.int .i64 0, .int .i64 ui, .int .i64 nn, .slice fa fl.length fc, .string ⟨tx.toArray⟩, .bool true] 37))
  obtain ⟨w1, hw1⟩ : ∃ w1, w.alloc (.cells #[.int .i64 0, .int .i64 ui, .int .i64 nn, .slice fa fl.length fc, .string ⟨tx.toArray⟩, .bool true] 37) = w1 := ⟨_, rfl⟩
  rw [hw1] at x0 h1 hp1
  have HP1 := Lib.hid hp1
  obtain ⟨k0, k1, k2, k3, k4, k5⟩ := six_at x0
  have HX := Lib.hid x0
  have hf : ∀ W, Below w0.heap.size w0 W → SRow W (.slice fa fl.length fc) fl := fun W hy => h1.f.below hy
  have HF := Lib.hid hf
  have H1 := Lib.hid h1
  clear h h1 x0 hf hp1
  obtain ⟨hE1, hE2⟩ := bitU_val nn
  have hT : textP ⟨0, ui, nn, fl, tx⟩ true = List.replicate (2000 + bitU nn) 120 := rfl
  have hTl := textP_len ⟨0, ui, nn, fl, tx⟩ true H1.out.t
  rw [hT] at hTl ⊢
  obtain ⟨E, hE⟩ : ∃ E, bitU nn = E := ⟨_, rfl⟩
  rw [hE] at hE1 hE2 hTl ⊢
  have cF : ∀ W, Calls Tryz.prog 22 #[.int .i64 (2000 + (E : Int))] W fun e w' => e = .returned (.string ⟨(List.replicate (2000 + E) (120 : UInt8)).toArray⟩) ∧ Below W.heap.size W w' := fun W => by
    have := fill_any (2000 + E) W (by omega)
    rwa [show ((2000 + E : Nat) : Int) = 2000 + (E : Int) by omega] at this
  have hz1 : wrap64 (E : Int) = (E : Int) := IntWalk.wrap64_in _ (by omega)
  have hz2 : wrap64 (2000 + (E : Int)) = 2000 + (E : Int) := IntWalk.wrap64_in _ (by omega)
  obtain ⟨T, hT2⟩ : ∃ T, List.replicate (2000 + E) (120 : UInt8) = T := ⟨_, rfl⟩
  rw [hT2] at cF hTl ⊢
  clear hT hE hT2
  go_enter Tryz.func10, Tryz.ntmps10
  go_upto_region 6 with (go_at_call 22; (with_reducible refine (cF _).mono ?_); rintro e w2 ⟨rfl, y2⟩)
  clear k0 k1 k2 k3 k4 k5 hE1 hE2 hz1 hz2 cF
  have h2 := H1.out.below y2
  have x2 := below_same y2 HX.out
  obtain ⟨_, c1, c2, c3, _, _⟩ := six_at x2
  obtain ⟨lvc, ec⟩ := h2.S.hc.obj
  obtain ⟨lvb, eb⟩ := h2.S.hb.obj'
  have nXC : ¬ w.heap.size = C := ne_ty x2 ec (by decide)
  have cA := rapp_any w0.heap.size C b fl (.slice fa fl.length fc) nn T w2 h2.S.hc h2.nC h2.I.r (HF.out _ h2.y) h2.l hTl
  have cB := fun (W : World) (hS : BoxS w0.heap.size W B b) (hy : Below w0.heap.size w0 W) => app_anyF w0.heap.size B b fl (.slice fa fl.length fc) nn T W hS h2.nB h2.I.r (HF.out _ hy) h2.l hTl (h2.G.below hy)
  have cC := fun (W : World) (hy : Below w0.heap.size w0 W) => bare_any (errO (appB b fl nn T).1) W (errTy_below h2.E hy)
  obtain ⟨R, hR⟩ : ∃ R, appB b fl nn T = R := ⟨_, rfl⟩
  have HR := Lib.hid hR
  rw [hR] at cA
  simp only [hR] at cB cC
  obtain ⟨r, hr⟩ : ∃ r, numA R.1 = r := ⟨_, rfl⟩
  obtain ⟨EV, hEV⟩ : ∃ v, errV (errO R.1) = v := ⟨_, rfl⟩
  obtain ⟨EN, hEN⟩ : ∃ n, errN (errO R.1) = n := ⟨_, rfl⟩
  simp only [hr, hEV, hEN] at cA cB cC
  have H2 := Lib.hid h2; have HX2 := Lib.hid x2
  clear hR hr hEV hEN h2 x2 ec eb
  go_wp2_with (first
    | (go_at_call 23; (with_reducible refine cA.mono ?_); rintro e w3 ⟨rfl, hc3, hk3, hf3⟩; have S3 := H2.out.S.stepC H2.out.nC hk3 hc3 hf3; have q3 := Lib.hid (H2.out.S.pkC hk3); have y3 := H2.out.y.trans (hk3.below H2.out.y.size (fun j e => by rw [e]; exact H2.out.nC)); obtain ⟨_, c1, c2, c3, _, _⟩ := six_at (hk3.obj HX2.out nXC))
    | (go_at_call 24; (with_reducible refine (cB _ S3.hb y3).mono ?_); rintro e w4 ⟨rfl, hb4, hk4, hf4⟩; have S4 := S3.stepB H2.out.nB hk4 hb4 hf4; have q4 := Lib.hid (S3.pkB hk4); have y4 := y3.trans (hk4.below y3.size (fun j e => by rw [e]; exact H2.out.nB)))
    | (go_at_call 25; (with_reducible refine (cC _ y4).mono ?_); rintro e w5 ⟨rfl, h5⟩))
  go_ret
  refine ⟨rfl, ?_, y4.trans (h5.mono y4.size), (HP1.out.trans (PK.below y2)).trans ((q3.out.trans q4.out).trans (PK.below h5))⟩
  rw [HR.out]
  exact S4.below h5
set_option maxRecDepth 100000 in
set_option maxHeartbeats 8000000 in
theorem posts_flag (h : PostE w0 B C V U k b us ⟨1, ui, nn, fl, tx⟩ fv w) :
    Calls Tryz.prog 10 #[.pointer (some ⟨B, 0, none⟩), .pointer (some ⟨C, 0, none⟩), .pointer (some ⟨V, 0, none⟩), .pointer (some ⟨U, 0, none⟩), .agg #[.int .i64 1, .int .i64 ui, .int .i64 nn, fv, .string ⟨tx.toArray⟩, .bool lg]] w (PostR w0 B C V U (flagB b ui nn fl).2 us w) := by
  obtain ⟨fa, fc, hfv⟩ : ∃ fa fc, fv = .slice fa fl.length fc := by
    obtain ⟨ao, cap, e, _⟩ := h.f
    exact ⟨_, _, e⟩
  subst hfv
  have x0 := World.heap_alloc_new w (.cells #[.int .i64 1, .int .i64 ui, .int .i64 nn, .slice fa fl.length fc, .string ⟨tx.toArray⟩, .bool lg] 37)
  have h1 := h.below ((Below.refl w.heap.size w).alloc (Nat.le_refl _) (.cells #[.int .i64 1, .int .i64 ui, .int .i64 nn, .slice fa fl.length fc, .string ⟨tx.toArray⟩, .bool lg] 37))
  have hp1 := PK.below ((Below.refl w.heap.size w).alloc (Nat.le_refl _) (.cells #[.int .i64 1, .int .i64 ui, .int .i64 nn, .slice fa fl.length fc, .string ⟨tx.toArray⟩, .bool lg] 37))
  obtain ⟨w1, hw1⟩ : ∃ w1, w.alloc (.cells #[.int .i64 1, .int .i64 ui, .int .i64 nn, .slice fa fl.length fc, .string ⟨tx.toArray⟩, .bool lg] 37) = w1 := ⟨_, rfl⟩
  rw [hw1] at x0 h1 hp1
  have HP1 := Lib.hid hp1
  obtain ⟨k0, k1, k2, k3, k4, k5⟩ := six_at x0
  have HX := Lib.hid x0
  have hf : ∀ W, Below w0.heap.size w0 W → SRow W (.slice fa fl.length fc) fl := fun W hy => h1.f.below hy
  have HF := Lib.hid hf
  have H1 := Lib.hid h1
  clear h h1 x0 hf hp1
  have yd : Below w1.heap.size w1 w1.drew := (Below.refl _ w1).drew
  have h2 := H1.out.below yd
  have x2 : w1.drew.heap[w.heap.size]? = _ := HX.out
  obtain ⟨lvc, ec⟩ := h2.S.hc.obj
  obtain ⟨lvb, eb⟩ := h2.S.hb.obj'
  have nXC : ¬ w.heap.size = C := ne_ty x2 ec (by decide)
  have nXB : ¬ w.heap.size = B := ne_ty x2 eb (by decide)
  have cA := flag_anyF w0.heap.size B b ui nn fl (.slice fa fl.length fc) w1.drew h2.S.hb h2.nB h2.I.r (HF.out _ h2.y) h2.l (h2.G.below h2.y) h2.u0 h2.u1
  have cB := fun (W : World) (hS : RBoxS w0.heap.size W C b) (hy : Below w0.heap.size w0 W) => rflag_any w0.heap.size C b ui nn fl (.slice fa fl.length fc) W hS h2.nC h2.I.r (HF.out _ hy) h2.l
  have cC := fun (W : World) (hy : Below w0.heap.size w0 W) => bare_any (flagB b ui nn fl).1 W (errTy_below h2.E hy)
  obtain ⟨R, hR⟩ : ∃ R, flagB b ui nn fl = R := ⟨_, rfl⟩
  rw [hR] at cA ⊢
  simp only [hR] at cB cC
  obtain ⟨EV, hEV⟩ : ∃ v, errV R.1 = v := ⟨_, rfl⟩
  obtain ⟨EN, hEN⟩ : ∃ n, errN R.1 = n := ⟨_, rfl⟩
  simp only [hEV, hEN] at cA cB cC
  have kk : ∀ W : World, W.heap[w.heap.size]? = some (.cells #[.int .i64 1, .int .i64 ui, .int .i64 nn, .slice fa fl.length fc, .string ⟨tx.toArray⟩, .bool lg] 37 (0, 0)) → W.cell? ⟨w.heap.size, 1, none⟩ = some (.int .i64 ui) ∧ W.cell? ⟨w.heap.size, 2, none⟩ = some (.int .i64 nn) ∧ W.cell? ⟨w.heap.size, 3, none⟩ = some (.slice fa fl.length fc) := fun W hW => by
    obtain ⟨_, q1, q2, q3, _, _⟩ := six_at hW
    exact ⟨q1, q2, q3⟩
  have KK := Lib.hid kk; have H2 := Lib.hid h2; have HX2 := Lib.hid x2
  clear hR hEV hEN h2 x2 ec eb kk
  go_enter Tryz.func10, Tryz.ntmps10
  go_upto_region 10 with fail
  clear k0 k1 k2 k3 k4 k5
  go_region_held3 (fun W => W.cell? ⟨w.heap.size, 1, none⟩ = some (.int .i64 ui) ∧ W.cell? ⟨w.heap.size, 2, none⟩ = some (.int .i64 nn) ∧ W.cell? ⟨w.heap.size, 3, none⟩ = some (.slice fa fl.length fc))
    (first | exact KK.out _ HX2.out | exact KK.out _ HX3.out | exact KK.out _ HX4.out | exact KK.out _ HX5.out)
    (first
      | (go_at_call 26; (with_reducible refine cA.mono ?_); rintro e w3 ⟨rfl, hb3, hk3, hf3⟩; have S3 := H2.out.S.stepB H2.out.nB hk3 hb3 hf3; have q3 := Lib.hid (H2.out.S.pkB hk3); have y3 := H2.out.y.trans (hk3.below H2.out.y.size (fun j e => by rw [e]; exact H2.out.nB)); have HX3 := Lib.hid (hk3.obj HX2.out nXB))
      | (go_at_call 27; (with_reducible refine (cB _ S3.hc y3).mono ?_); rintro e w4 ⟨rfl, hc4, hk4, hf4⟩; have S4 := S3.stepC H2.out.nC hk4 hc4 hf4; have q4 := Lib.hid (S3.pkC hk4); have y4 := y3.trans (hk4.below y3.size (fun j e => by rw [e]; exact H2.out.nC)); have HX4 := Lib.hid (hk4.obj HX3.out nXC))
      | (go_at_call 25; (with_reducible refine (cC _ y4).mono ?_); rintro e w5 ⟨rfl, h5⟩; have HX5 := Lib.hid (below_same h5 HX4.out)))
  go_wp2_with fail
  go_ret
  exact ⟨rfl, S4.below h5, y4.trans (h5.mono y4.size), (HP1.out.trans (PK.below yd)).trans ((q3.out.trans q4.out).trans (PK.below h5))⟩
set_option maxRecDepth 100000 in
set_option maxHeartbeats 8000000 in
theorem posts_exp (h : PostE w0 B C V U k b us ⟨2, ui, nn, fl, tx⟩ fv w) :
    Calls Tryz.prog 10 #[.pointer (some ⟨B, 0, none⟩), .pointer (some ⟨C, 0, none⟩), .pointer (some ⟨V, 0, none⟩), .pointer (some ⟨U, 0, none⟩), .agg #[.int .i64 2, .int .i64 ui, .int .i64 nn, fv, .string ⟨tx.toArray⟩, .bool lg]] w (PostR w0 B C V U (expB b (holP nn)).2 us w) := by
  obtain ⟨fa, fc, hfv⟩ : ∃ fa fc, fv = .slice fa fl.length fc := by
    obtain ⟨ao, cap, e, _⟩ := h.f
    exact ⟨_, _, e⟩
  subst hfv
  have x0 := World.heap_alloc_new w (.cells #[.int .i64 2, .int .i64 ui, .int .i64 nn, .slice fa fl.length fc, .string ⟨tx.toArray⟩, .bool lg] 37)
  have h1 := h.below ((Below.refl w.heap.size w).alloc (Nat.le_refl _) (.cells #[.int .i64 2, .int .i64 ui, .int .i64 nn, .slice fa fl.length fc, .string ⟨tx.toArray⟩, .bool lg] 37))
  have hp1 := PK.below ((Below.refl w.heap.size w).alloc (Nat.le_refl _) (.cells #[.int .i64 2, .int .i64 ui, .int .i64 nn, .slice fa fl.length fc, .string ⟨tx.toArray⟩, .bool lg] 37))
  obtain ⟨w1, hw1⟩ : ∃ w1, w.alloc (.cells #[.int .i64 2, .int .i64 ui, .int .i64 nn, .slice fa fl.length fc, .string ⟨tx.toArray⟩, .bool lg] 37) = w1 := ⟨_, rfl⟩
  rw [hw1] at x0 h1 hp1
  have HP1 := Lib.hid hp1
  obtain ⟨k0, k1, k2, k3, k4, k5⟩ := six_at x0
  have HX := Lib.hid x0
  have hf : ∀ W, Below w0.heap.size w0 W → SRow W (.slice fa fl.length fc) fl := fun W hy => h1.f.below hy
  have HF := Lib.hid hf
  have H1 := Lib.hid h1
  clear h h1 x0 hf hp1
  obtain ⟨lvc, ec⟩ := H1.out.S.hc.obj
  obtain ⟨lvb, eb⟩ := H1.out.S.hb.obj'
  have nXC : ¬ w.heap.size = C := ne_ty HX.out ec (by decide)
  have nXB : ¬ w.heap.size = B := ne_ty HX.out eb (by decide)
  have hsh := right_short H1.out.I.r
  have hln := right_len H1.out.I.r
  have cA := exp_posts w.heap.size w0.heap.size B b (holP nn) w1 H1.out.S.hb H1.out.nB (fun x hx => by have := hsh x hx; omega) (by omega) (fun x hx W hW => posts1_any nn x.uid w.heap.size W ((six_at (below_same hW HX.out)).2.2.1))
  have cB := fun (W : World) (hS : RBoxS w0.heap.size W C b) (hc : W.heap[w.heap.size]? = some (.cells #[.int .i64 2, .int .i64 ui, .int .i64 nn, .slice fa fl.length fc, .string ⟨tx.toArray⟩, .bool lg] 37 (0, 0))) => rexp_any w.heap.size w0.heap.size C b (holP nn) W hS H1.out.nC (fun x hx => by have := hsh x hx; omega) (by omega) (fun x hx W' hW => posts1_any nn x.uid w.heap.size W' ((six_at (below_same hW hc)).2.2.1))
  have hle : (expB b (holP nn)).1.length ≤ 1000000 := by
    have : (expB b (holP nn)).1.length ≤ b.ls.length := by
      show ((b.ls.filter _).map _).length ≤ _
      rw [List.length_map]
      exact List.length_filter_le ..
    omega
  obtain ⟨R, hR⟩ : ∃ R, expB b (holP nn) = R := ⟨_, rfl⟩
  rw [hR] at cA hle ⊢
  simp only [hR] at cB
  have HLE := Lib.hid hle
  clear hR hle hsh hln ec eb
  go_enter Tryz.func10, Tryz.ntmps10
  go_wp2_with (first
    | (go_at_call 30; (with_reducible refine cA.mono ?_); rintro e w3 ⟨ov, rfl, ho3, hb3, hk3, hf3⟩; obtain ⟨oa, oc, rfl⟩ := owns_val ho3; have S3 := H1.out.S.stepB H1.out.nB hk3 hb3 hf3; have q3 := Lib.hid (H1.out.S.pkB hk3); have y3 := H1.out.y.trans (hk3.below H1.out.y.size (fun j e => by rw [e]; exact H1.out.nB)); have HX3 := Lib.hid (hk3.obj HX.out nXB); have HO3 := Lib.hid ho3; clear ho3)
    | (go_at_call 31; go_loud ((with_reducible refine (cB _ S3.hc HX3.out).mono ?_); rintro e w4 ⟨ov2, rfl, ho4, hc4, hk4, hf4⟩; obtain ⟨oa2, oc2, rfl⟩ := owns_val ho4; have S4 := S3.stepC H1.out.nC hk4 hc4 hf4; have q4 := Lib.hid (S3.pkC hk4); have y4 := y3.trans (hk4.below y3.size (fun j e => by rw [e]; exact H1.out.nC)); obtain ⟨lvc, ec⟩ := S3.hc.obj; have ho5 := owns_kept HO3.out hk4 (fun j hj e => owns_not HO3.out ec (by decide) (e ▸ hj)); have cC := sameI_any _ _ _ _ _ _ ho5 ho4 HLE.out; clear ho4 ho5 ec))
    | (go_at_call 29; (with_reducible refine cC.mono ?_); rintro e w5 ⟨rfl, h5⟩))
  go_ret
  exact ⟨rfl, S4.below h5, y4.trans (h5.mono y4.size), HP1.out.trans ((q3.out.trans q4.out).trans (PK.below h5))⟩
set_option maxRecDepth 100000 in
set_option maxHeartbeats 8000000 in
theorem posts_know (h : PostE w0 B C V U k b us ⟨5, ui, nn, fl, tx⟩ fv w) :
    Calls Tryz.prog 10 #[.pointer (some ⟨B, 0, none⟩), .pointer (some ⟨C, 0, none⟩), .pointer (some ⟨V, 0, none⟩), .pointer (some ⟨U, 0, none⟩), .agg #[.int .i64 5, .int .i64 ui, .int .i64 nn, fv, .string ⟨tx.toArray⟩, .bool lg]] w (PostR w0 B C V U b (knowF us ui fl) w) := by
  obtain ⟨fa, fc, hfv⟩ : ∃ fa fc, fv = .slice fa fl.length fc := by
    obtain ⟨ao, cap, e, _⟩ := h.f
    exact ⟨_, _, e⟩
  subst hfv
  have x0 := World.heap_alloc_new w (.cells #[.int .i64 5, .int .i64 ui, .int .i64 nn, .slice fa fl.length fc, .string ⟨tx.toArray⟩, .bool lg] 37)
  have h1 := h.below ((Below.refl w.heap.size w).alloc (Nat.le_refl _) (.cells #[.int .i64 5, .int .i64 ui, .int .i64 nn, .slice fa fl.length fc, .string ⟨tx.toArray⟩, .bool lg] 37))
  have hp1 := PK.below ((Below.refl w.heap.size w).alloc (Nat.le_refl _) (.cells #[.int .i64 5, .int .i64 ui, .int .i64 nn, .slice fa fl.length fc, .string ⟨tx.toArray⟩, .bool lg] 37))
  obtain ⟨w1, hw1⟩ : ∃ w1, w.alloc (.cells #[.int .i64 5, .int .i64 ui, .int .i64 nn, .slice fa fl.length fc, .string ⟨tx.toArray⟩, .bool lg] 37) = w1 := ⟨_, rfl⟩
  rw [hw1] at x0 h1 hp1
  have HP1 := Lib.hid hp1
  obtain ⟨k0, k1, k2, k3, k4, k5⟩ := six_at x0
  have HX := Lib.hid x0
  have hf : ∀ W, Below w0.heap.size w0 W → SRow W (.slice fa fl.length fc) fl := fun W hy => h1.f.below hy
  have HF := Lib.hid hf
  have H1 := Lib.hid h1
  clear h h1 x0 hf hp1
  obtain ⟨uv, gv, hv⟩ := H1.out.S.hv
  have hun := H1.out.I.n
  have hkk := H1.out.k
  have hus : us.length ≤ 100000 := by omega
  have hfl := H1.out.fl
  have cA := bknow_any w0.heap.size V uv gv us ui fl (.slice fa fl.length fc) w1 hv (HF.out _ H1.out.y) (by show fl.length ≤ _; have : fl.length ≤ 100 := hfl; omega) hus (rise_nodup H1.out.I.s)
  have cB := fun (W : World) (lu : Value) (hS : RVS w0.heap.size W U lu us) (hy : Below w0.heap.size w0 W) => rknow_any w0.heap.size U lu us ui fl (.slice fa fl.length fc) W hS (HF.out _ hy) (H1.out.fs.below hy) hus
  have HV := Lib.hid hv
  clear hv hun hkk hfl
  go_enter Tryz.func10, Tryz.ntmps10
  go_wp2_with (first
    | (go_at_call 35; (with_reducible refine cA.mono ?_); rintro e w3 ⟨rfl, hv3, hk3⟩; have hk3 := hk3.mono (T := fun j => j = V ∨ uv.ownBlock = some j ∨ gv.ownBlock = some j) (fun j _ e => Or.inr (Or.inr e)); have S3 := H1.out.S.stepV H1.out.nV HV.out hk3 hv3; have q3 := Lib.hid (pkV HV.out hk3); have y3 := H1.out.y.trans (hk3.below H1.out.y.size (view_low HV.out H1.out.nV)); have HX3 := Lib.hid (hk3.obj HX.out (view_apart HV.out HX.out (by decide) (by decide) (by decide))); obtain ⟨_, c1, c2, c3, _, _⟩ := six_at HX3.out; obtain ⟨lu, hu3, o1, o2⟩ := S3.hu; have cB3 := cB w3 lu hu3 y3)
    | (go_at_call 36; (with_reducible refine cB3.mono ?_); rintro e w4 ⟨rfl, hu4, hk4⟩; have S4 := S3.stepK hu3 o1 o2 hk4 hu4; have q4 := Lib.hid (pkK hu3 hk4); have y4 := y3.trans (hk4.k.below y3.size (rvs_low hu3))))
  go_ret
  exact ⟨rfl, S4, y4, HP1.out.trans (q3.out.trans q4.out)⟩
set_option maxRecDepth 100000 in
set_option maxHeartbeats 8000000 in
theorem posts_none (h : PostE w0 B C V U k b us ⟨wh, ui, nn, fl, tx⟩ fv w) (h0 : wh ≠ 0) (h1 : wh ≠ 1) (h2 : wh ≠ 2) (h3 : wh ≠ 3) (h4 : wh ≠ 4) (h5 : wh ≠ 5) :
    Calls Tryz.prog 10 #[.pointer (some ⟨B, 0, none⟩), .pointer (some ⟨C, 0, none⟩), .pointer (some ⟨V, 0, none⟩), .pointer (some ⟨U, 0, none⟩), .agg #[.int .i64 wh, .int .i64 ui, .int .i64 nn, fv, .string ⟨tx.toArray⟩, .bool lg]] w (PostR w0 B C V U b us w) := by
  obtain ⟨fa, fc, hfv⟩ : ∃ fa fc, fv = .slice fa fl.length fc := by
    obtain ⟨ao, cap, e, _⟩ := h.f
    exact ⟨_, _, e⟩
  subst hfv
  have x0 := World.heap_alloc_new w (.cells #[.int .i64 wh, .int .i64 ui, .int .i64 nn, .slice fa fl.length fc, .string ⟨tx.toArray⟩, .bool lg] 37)
  have hh := h.below ((Below.refl w.heap.size w).alloc (Nat.le_refl _) (.cells #[.int .i64 wh, .int .i64 ui, .int .i64 nn, .slice fa fl.length fc, .string ⟨tx.toArray⟩, .bool lg] 37))
  have hp1 := PK.below ((Below.refl w.heap.size w).alloc (Nat.le_refl _) (.cells #[.int .i64 wh, .int .i64 ui, .int .i64 nn, .slice fa fl.length fc, .string ⟨tx.toArray⟩, .bool lg] 37))
  obtain ⟨w1, hw1⟩ : ∃ w1, w.alloc (.cells #[.int .i64 wh, .int .i64 ui, .int .i64 nn, .slice fa fl.length fc, .string ⟨tx.toArray⟩, .bool lg] 37) = w1 := ⟨_, rfl⟩
  rw [hw1] at x0 hh hp1
  have HP1 := Lib.hid hp1
  obtain ⟨k0, k1, k2, k3, k4, k5⟩ := six_at x0
  have HX := Lib.hid x0
  have hf : ∀ W, Below w0.heap.size w0 W → SRow W (.slice fa fl.length fc) fl := fun W hy => hh.f.below hy
  have HF := Lib.hid hf
  have H1 := Lib.hid hh
  clear h hh x0 hf hp1
  have e0 : (wh == 0) = false := beq_eq_false_iff_ne.2 h0
  have e1 : (wh == 1) = false := beq_eq_false_iff_ne.2 h1
  have e2 : (wh == 2) = false := beq_eq_false_iff_ne.2 h2
  have e3 : (wh == 3) = false := beq_eq_false_iff_ne.2 h3
  have e4 : (wh == 4) = false := beq_eq_false_iff_ne.2 h4
  have e5 : (wh == 5) = false := beq_eq_false_iff_ne.2 h5
  clear h0 h1 h2 h3 h4 h5
  go_enter Tryz.func10, Tryz.ntmps10
  go_wp2_with fail
  go_ret
  exact ⟨rfl, H1.out.S, H1.out.y, HP1.out⟩
end
end Go.Proofs.YteclajckkjocnaaGreatDoor
namespace Go.Proofs.YteclajckkjocnaaGreatDoor
open Go.RowKit Go.Shelf Go.Sort
set_option linter.unusedSimpArgs false
set_option linter.unusedSimpArgs false
section
variable {w0 : World} {B C V U k : Nat} {b : BoxP} {us : Us} {fv : Value} {w : World} {wh ui nn : Int} {fl : List (List UInt8)} {tx : List UInt8} {lg : Bool}
set_option maxRecDepth 100000 in
set_option maxHeartbeats 8000000 in
theorem posts_look3 (h : PostE w0 B C V U k b us ⟨3, ui, nn, fl, tx⟩ fv w) :
    Calls Tryz.prog 10 #[.pointer (some ⟨B, 0, none⟩), .pointer (some ⟨C, 0, none⟩), .pointer (some ⟨V, 0, none⟩), .pointer (some ⟨U, 0, none⟩), .agg #[.int .i64 3, .int .i64 ui, .int .i64 nn, fv, .string ⟨tx.toArray⟩, .bool lg]] w (PostR w0 B C V U b (lookF b.ls us true).2 w) := by
  obtain ⟨fa, fc, hfv⟩ : ∃ fa fc, fv = .slice fa fl.length fc := by
    obtain ⟨ao, cap, e, _⟩ := h.f
    exact ⟨_, _, e⟩
  subst hfv
  have x0 := World.heap_alloc_new w (.cells #[.int .i64 3, .int .i64 ui, .int .i64 nn, .slice fa fl.length fc, .string ⟨tx.toArray⟩, .bool lg] 37)
  have h1 := h.below ((Below.refl w.heap.size w).alloc (Nat.le_refl _) (.cells #[.int .i64 3, .int .i64 ui, .int .i64 nn, .slice fa fl.length fc, .string ⟨tx.toArray⟩, .bool lg] 37))
  have hp1 := PK.below ((Below.refl w.heap.size w).alloc (Nat.le_refl _) (.cells #[.int .i64 3, .int .i64 ui, .int .i64 nn, .slice fa fl.length fc, .string ⟨tx.toArray⟩, .bool lg] 37))
  obtain ⟨w1, hw1⟩ : ∃ w1, w.alloc (.cells #[.int .i64 3, .int .i64 ui, .int .i64 nn, .slice fa fl.length fc, .string ⟨tx.toArray⟩, .bool lg] 37) = w1 := ⟨_, rfl⟩
  rw [hw1] at x0 h1 hp1
  have HP1 := Lib.hid hp1
  obtain ⟨k0, k1, k2, k3, k4, k5⟩ := six_at x0
  have HX := Lib.hid x0
  have hf : ∀ W, Below w0.heap.size w0 W → SRow W (.slice fa fl.length fc) fl := fun W hy => h1.f.below hy
  have HF := Lib.hid hf
  have H1 := Lib.hid h1
  clear h h1 x0 hf hp1
  have yd : Below w1.heap.size w1 w1.drew := (Below.refl _ w1).drew
  have h2 := H1.out.below yd
  have x2 : w1.drew.heap[w.heap.size]? = _ := HX.out
  obtain ⟨lvc, zc, ec, hzc, hxc⟩ := h2.S.hc
  obtain ⟨lvb, zb, eb, hzb, hxb⟩ := h2.S.hb
  obtain ⟨uv, gv, hv⟩ := h2.S.hv
  have hri := rising_of h2.I.r
  have hln := right_len h2.I.r
  have hsh := right_short h2.I.r
  have hun := h2.I.n
  have hkk := h2.k
  have hus : us.length ≤ 100000 := by omega
  have huf := h2.I.f
  have hul := h2.I.s.low
  have hnx := (right_parts h2.I.r).2.1
  have cA := look_any w0.heap.size V b lvb uv gv zb us true w1.drew hv h2.nV h2.y.size hzb hxb hri (fun x hx => by have := hsh x hx; omega) (fun u hu => by have := huf u hu; omega) hus (fun u hu => by have := hul u hu; omega) (by omega)
  have cB := fun (W : World) (lu : Value) (hS : RVS w0.heap.size W U lu us) (hy : Below w0.heap.size w0 W) (hx : XRow w0.heap.size W lvc zc) => rlook_any w0.heap.size U b lvc lu zc us true W hS h2.nU hy.size hzc hx hri (fun x hx => by have := hsh x hx; omega) (fun u hu => by have := huf u hu; omega) hus (by omega)
  have hnl := look_news b.ls us true
  obtain ⟨R, hR⟩ : ∃ R, lookF b.ls us true = R := ⟨_, rfl⟩
  unfold LookQ at cA
  rw [hR] at cA hnl ⊢
  simp only [hR] at cB
  obtain ⟨la, lc, hlb, _⟩ := hxb.1
  subst hlb
  obtain ⟨la2, lc2, hlc, _⟩ := hxc.1
  subst hlc
  have kk : ∀ W : World, W.heap[w.heap.size]? = some (.cells #[.int .i64 3, .int .i64 ui, .int .i64 nn, .slice fa fl.length fc, .string ⟨tx.toArray⟩, .bool lg] 37 (0, 0)) → W.heap[B]? = some (.cells #[.int .i64 b.valid, .int .i64 b.next, .slice la zb.length lc] 28 (0, 0)) → W.heap[C]? = some (.cells #[.int .i64 b.valid, .int .i64 b.next, .slice la2 zc.length lc2] 26 (0, 0)) → (W.cell? ⟨w.heap.size, 0, none⟩ = some (.int .i64 3) ∧ W.cell? ⟨B, 0, none⟩ = some (.int .i64 b.valid) ∧ W.cell? ⟨B, 1, none⟩ = some (.int .i64 b.next) ∧ W.cell? ⟨B, 2, none⟩ = some (.slice la zb.length lc) ∧ W.cell? ⟨C, 0, none⟩ = some (.int .i64 b.valid) ∧ W.cell? ⟨C, 1, none⟩ = some (.int .i64 b.next) ∧ W.cell? ⟨C, 2, none⟩ = some (.slice la2 zc.length lc2)) := fun W hW hB hC => by
    obtain ⟨q0, _⟩ := six_at hW
    obtain ⟨p0, p1, p2⟩ := three_cells hB
    obtain ⟨r0, r1, r2⟩ := three_cells hC
    exact ⟨q0, p0, p1, p2, r0, r1, r2⟩
  have KK := Lib.hid kk; have H2 := Lib.hid h2; have HX2 := Lib.hid x2; have HB2 := Lib.hid eb; have HC2 := Lib.hid ec; have HV2 := Lib.hid hv; have HXC := Lib.hid hxc; have HNL := Lib.hid hnl
  clear hR h2 x2 ec eb hzc hzb hxc hxb hv hri hln hsh hun hkk hus huf hul hnx hnl kk
  go_enter Tryz.func10, Tryz.ntmps10
  go_upto_region 16 with fail
  clear k0 k1 k2 k3 k4 k5
  go_region_held3 (fun W => W.cell? ⟨w.heap.size, 0, none⟩ = some (.int .i64 3) ∧ W.cell? ⟨B, 0, none⟩ = some (.int .i64 b.valid) ∧ W.cell? ⟨B, 1, none⟩ = some (.int .i64 b.next) ∧ W.cell? ⟨B, 2, none⟩ = some (.slice la zb.length lc) ∧ W.cell? ⟨C, 0, none⟩ = some (.int .i64 b.valid) ∧ W.cell? ⟨C, 1, none⟩ = some (.int .i64 b.next) ∧ W.cell? ⟨C, 2, none⟩ = some (.slice la2 zc.length lc2))
    (first | exact KK.out _ HX2.out HB2.out HC2.out | exact KK.out _ HX3.out HB3.out HC3.out | exact KK.out _ HX4.out HB4.out HC4.out | exact KK.out _ HX5.out HB5.out HC5.out)
    (first
      | (go_at_call 33; (with_reducible refine cA.mono ?_); rintro e w3 ⟨ov, vs, uv', gv', rfl, ho3, hr3, hv3, hk3, _, _⟩; obtain ⟨oa, oc, rfl⟩ := owns_val ho3; have S3 := H2.out.S.stepV H2.out.nV HV2.out hk3 hv3; have q3 := Lib.hid (pkV HV2.out hk3); have y3 := H2.out.y.trans (hk3.below H2.out.y.size (view_low HV2.out H2.out.nV)); have HX3 := Lib.hid (hk3.obj HX2.out (view_apart HV2.out HX2.out (by decide) (by decide) (by decide))); have HB3 := Lib.hid (hk3.obj HB2.out (view_apart HV2.out HB2.out (by decide) (by decide) (by decide))); have HC3 := Lib.hid (hk3.obj HC2.out (view_apart HV2.out HC2.out (by decide) (by decide) (by decide))); have HO3 := Lib.hid ho3; have HR3 := Lib.hid hr3; obtain ⟨lu, hu3, _, _⟩ := S3.hu; have hxc3 := HXC.out.kept hk3 (view_spares HV2.out H2.out.nV); have cB3 := cB w3 lu hu3 y3 hxc3; clear ho3 hr3 hxc3)
      | (go_at_call 34; (with_reducible refine cB3.mono ?_); rintro e w4 ⟨ov2, vs2, lu', rfl, ho4, hr4, hu4, hk4, hl4⟩; obtain ⟨oa2, oc2, rfl⟩ := owns_val ho4; have S4 := S3.stepU H2.out.nU hk4 hu4 hl4; have q4 := Lib.hid (pkU hu3 hk4); have y4 := y3.trans (hk4.below y3.size (fun j e => by rw [e]; exact H2.out.nU)); obtain ⟨zu, eu, _⟩ := hu3; have HX4 := Lib.hid (hk4.obj HX3.out (ne_ty HX3.out eu (by decide))); have HB4 := Lib.hid (hk4.obj HB3.out (ne_ty HB3.out eu (by decide))); have HC4 := Lib.hid (hk4.obj HC3.out (ne_ty HC3.out eu (by decide))); have ho5 := owns_kept HO3.out hk4 (fun j hj e => owns_not HO3.out eu (by decide) (e ▸ hj)); have hr5 := HR3.out.kept hk4 (spares_at eu H2.out.nU (by decide) (by decide)); have cC := sameN_any _ _ _ _ _ _ _ _ _ _ ho5 ho4 hr5 hr4 (by have := HNL.out; have := H2.out.I.n; have := H2.out.k; omega); clear ho4 ho5 hr4 hr5 eu)
      | (go_at_call 32; (with_reducible refine cC.mono ?_); rintro e w5 ⟨rfl, h5⟩; have HX5 := Lib.hid (below_same h5 HX4.out); have HB5 := Lib.hid (below_same h5 HB4.out); have HC5 := Lib.hid (below_same h5 HC4.out)))
  go_wp2_with fail
  go_ret
  exact ⟨rfl, S4.below h5, y4.trans (h5.mono y4.size), (HP1.out.trans (PK.below yd)).trans ((q3.out.trans q4.out).trans (PK.below h5))⟩
set_option maxRecDepth 100000 in
set_option maxHeartbeats 8000000 in
theorem posts_look4 (h : PostE w0 B C V U k b us ⟨4, ui, nn, fl, tx⟩ fv w) :
    Calls Tryz.prog 10 #[.pointer (some ⟨B, 0, none⟩), .pointer (some ⟨C, 0, none⟩), .pointer (some ⟨V, 0, none⟩), .pointer (some ⟨U, 0, none⟩), .agg #[.int .i64 4, .int .i64 ui, .int .i64 nn, fv, .string ⟨tx.toArray⟩, .bool lg]] w (PostR w0 B C V U b (lookF b.ls us false).2 w) := by
  obtain ⟨fa, fc, hfv⟩ : ∃ fa fc, fv = .slice fa fl.length fc := by
    obtain ⟨ao, cap, e, _⟩ := h.f
    exact ⟨_, _, e⟩
  subst hfv
  have x0 := World.heap_alloc_new w (.cells #[.int .i64 4, .int .i64 ui, .int .i64 nn, .slice fa fl.length fc, .string ⟨tx.toArray⟩, .bool lg] 37)
  have h1 := h.below ((Below.refl w.heap.size w).alloc (Nat.le_refl _) (.cells #[.int .i64 4, .int .i64 ui, .int .i64 nn, .slice fa fl.length fc, .string ⟨tx.toArray⟩, .bool lg] 37))
  have hp1 := PK.below ((Below.refl w.heap.size w).alloc (Nat.le_refl _) (.cells #[.int .i64 4, .int .i64 ui, .int .i64 nn, .slice fa fl.length fc, .string ⟨tx.toArray⟩, .bool lg] 37))
  obtain ⟨w1, hw1⟩ : ∃ w1, w.alloc (.cells #[.int .i64 4, .int .i64 ui, .int .i64 nn, .slice fa fl.length fc, .string ⟨tx.toArray⟩, .bool lg] 37) = w1 := ⟨_, rfl⟩
  rw [hw1] at x0 h1 hp1
  have HP1 := Lib.hid hp1
  obtain ⟨k0, k1, k2, k3, k4, k5⟩ := six_at x0
  have HX := Lib.hid x0
  have hf : ∀ W, Below w0.heap.size w0 W → SRow W (.slice fa fl.length fc) fl := fun W hy => h1.f.below hy
  have HF := Lib.hid hf
  have H1 := Lib.hid h1
  clear h h1 x0 hf hp1
  have yd : Below w1.heap.size w1 w1.drew := (Below.refl _ w1).drew
  have h2 := H1.out.below yd
  have x2 : w1.drew.heap[w.heap.size]? = _ := HX.out
  obtain ⟨lvc, zc, ec, hzc, hxc⟩ := h2.S.hc
  obtain ⟨lvb, zb, eb, hzb, hxb⟩ := h2.S.hb
  obtain ⟨uv, gv, hv⟩ := h2.S.hv
  have hri := rising_of h2.I.r
  have hln := right_len h2.I.r
  have hsh := right_short h2.I.r
  have hun := h2.I.n
  have hkk := h2.k
  have hus : us.length ≤ 100000 := by omega
  have huf := h2.I.f
  have hul := h2.I.s.low
  have hnx := (right_parts h2.I.r).2.1
  have cA := look_any w0.heap.size V b lvb uv gv zb us false w1.drew hv h2.nV h2.y.size hzb hxb hri (fun x hx => by have := hsh x hx; omega) (fun u hu => by have := huf u hu; omega) hus (fun u hu => by have := hul u hu; omega) (by omega)
  have cB := fun (W : World) (lu : Value) (hS : RVS w0.heap.size W U lu us) (hy : Below w0.heap.size w0 W) (hx : XRow w0.heap.size W lvc zc) => rlook_any w0.heap.size U b lvc lu zc us false W hS h2.nU hy.size hzc hx hri (fun x hx => by have := hsh x hx; omega) (fun u hu => by have := huf u hu; omega) hus (by omega)
  have hnl := look_news b.ls us false
  obtain ⟨R, hR⟩ : ∃ R, lookF b.ls us false = R := ⟨_, rfl⟩
  unfold LookQ at cA
  rw [hR] at cA hnl ⊢
  simp only [hR] at cB
  obtain ⟨la, lc, hlb, _⟩ := hxb.1
  subst hlb
  obtain ⟨la2, lc2, hlc, _⟩ := hxc.1
  subst hlc
  have kk : ∀ W : World, W.heap[w.heap.size]? = some (.cells #[.int .i64 4, .int .i64 ui, .int .i64 nn, .slice fa fl.length fc, .string ⟨tx.toArray⟩, .bool lg] 37 (0, 0)) → W.heap[B]? = some (.cells #[.int .i64 b.valid, .int .i64 b.next, .slice la zb.length lc] 28 (0, 0)) → W.heap[C]? = some (.cells #[.int .i64 b.valid, .int .i64 b.next, .slice la2 zc.length lc2] 26 (0, 0)) → (W.cell? ⟨w.heap.size, 0, none⟩ = some (.int .i64 4) ∧ W.cell? ⟨B, 0, none⟩ = some (.int .i64 b.valid) ∧ W.cell? ⟨B, 1, none⟩ = some (.int .i64 b.next) ∧ W.cell? ⟨B, 2, none⟩ = some (.slice la zb.length lc) ∧ W.cell? ⟨C, 0, none⟩ = some (.int .i64 b.valid) ∧ W.cell? ⟨C, 1, none⟩ = some (.int .i64 b.next) ∧ W.cell? ⟨C, 2, none⟩ = some (.slice la2 zc.length lc2)) := fun W hW hB hC => by
    obtain ⟨q0, _⟩ := six_at hW
    obtain ⟨p0, p1, p2⟩ := three_cells hB
    obtain ⟨r0, r1, r2⟩ := three_cells hC
    exact ⟨q0, p0, p1, p2, r0, r1, r2⟩
  have KK := Lib.hid kk; have H2 := Lib.hid h2; have HX2 := Lib.hid x2; have HB2 := Lib.hid eb; have HC2 := Lib.hid ec; have HV2 := Lib.hid hv; have HXC := Lib.hid hxc; have HNL := Lib.hid hnl
  clear hR h2 x2 ec eb hzc hzb hxc hxb hv hri hln hsh hun hkk hus huf hul hnx hnl kk
  go_enter Tryz.func10, Tryz.ntmps10
  go_upto_region 16 with fail
  clear k0 k1 k2 k3 k4 k5
  go_region_held3 (fun W => W.cell? ⟨w.heap.size, 0, none⟩ = some (.int .i64 4) ∧ W.cell? ⟨B, 0, none⟩ = some (.int .i64 b.valid) ∧ W.cell? ⟨B, 1, none⟩ = some (.int .i64 b.next) ∧ W.cell? ⟨B, 2, none⟩ = some (.slice la zb.length lc) ∧ W.cell? ⟨C, 0, none⟩ = some (.int .i64 b.valid) ∧ W.cell? ⟨C, 1, none⟩ = some (.int .i64 b.next) ∧ W.cell? ⟨C, 2, none⟩ = some (.slice la2 zc.length lc2))
    (first | exact KK.out _ HX2.out HB2.out HC2.out | exact KK.out _ HX3.out HB3.out HC3.out | exact KK.out _ HX4.out HB4.out HC4.out | exact KK.out _ HX5.out HB5.out HC5.out)
    (first
      | (go_at_call 33; (with_reducible refine cA.mono ?_); rintro e w3 ⟨ov, vs, uv', gv', rfl, ho3, hr3, hv3, hk3, _, _⟩; obtain ⟨oa, oc, rfl⟩ := owns_val ho3; have S3 := H2.out.S.stepV H2.out.nV HV2.out hk3 hv3; have q3 := Lib.hid (pkV HV2.out hk3); have y3 := H2.out.y.trans (hk3.below H2.out.y.size (view_low HV2.out H2.out.nV)); have HX3 := Lib.hid (hk3.obj HX2.out (view_apart HV2.out HX2.out (by decide) (by decide) (by decide))); have HB3 := Lib.hid (hk3.obj HB2.out (view_apart HV2.out HB2.out (by decide) (by decide) (by decide))); have HC3 := Lib.hid (hk3.obj HC2.out (view_apart HV2.out HC2.out (by decide) (by decide) (by decide))); have HO3 := Lib.hid ho3; have HR3 := Lib.hid hr3; obtain ⟨lu, hu3, _, _⟩ := S3.hu; have hxc3 := HXC.out.kept hk3 (view_spares HV2.out H2.out.nV); have cB3 := cB w3 lu hu3 y3 hxc3; clear ho3 hr3 hxc3)
      | (go_at_call 34; (with_reducible refine cB3.mono ?_); rintro e w4 ⟨ov2, vs2, lu', rfl, ho4, hr4, hu4, hk4, hl4⟩; obtain ⟨oa2, oc2, rfl⟩ := owns_val ho4; have S4 := S3.stepU H2.out.nU hk4 hu4 hl4; have q4 := Lib.hid (pkU hu3 hk4); have y4 := y3.trans (hk4.below y3.size (fun j e => by rw [e]; exact H2.out.nU)); obtain ⟨zu, eu, _⟩ := hu3; have HX4 := Lib.hid (hk4.obj HX3.out (ne_ty HX3.out eu (by decide))); have HB4 := Lib.hid (hk4.obj HB3.out (ne_ty HB3.out eu (by decide))); have HC4 := Lib.hid (hk4.obj HC3.out (ne_ty HC3.out eu (by decide))); have ho5 := owns_kept HO3.out hk4 (fun j hj e => owns_not HO3.out eu (by decide) (e ▸ hj)); have hr5 := HR3.out.kept hk4 (spares_at eu H2.out.nU (by decide) (by decide)); have cC := sameN_any _ _ _ _ _ _ _ _ _ _ ho5 ho4 hr5 hr4 (by have := HNL.out; have := H2.out.I.n; have := H2.out.k; omega); clear ho4 ho5 hr4 hr5 eu)
      | (go_at_call 32; (with_reducible refine cC.mono ?_); rintro e w5 ⟨rfl, h5⟩; have HX5 := Lib.hid (below_same h5 HX4.out); have HB5 := Lib.hid (below_same h5 HB4.out); have HC5 := Lib.hid (below_same h5 HC4.out)))
  go_wp2_with fail
  go_ret
  exact ⟨rfl, S4.below h5, y4.trans (h5.mono y4.size), (HP1.out.trans (PK.below yd)).trans ((q3.out.trans q4.out).trans (PK.below h5))⟩
theorem posts_any {x : Pst} (lg : Bool) (h : PostE w0 B C V U k b us x fv w) : Calls Tryz.prog 10 #[.pointer (some ⟨B, 0, none⟩), .pointer (some ⟨C, 0, none⟩), .pointer (some ⟨V, 0, none⟩), .pointer (some ⟨U, 0, none⟩), .agg #[.int .i64 x.what, .int .i64 x.uid, .int .i64 x.n, fv, .string ⟨x.text.toArray⟩, .bool lg]] w (PostR w0 B C V U (playB b us x lg).1 (playB b us x lg).2 w) := by
  obtain ⟨wh, ui, nn, fl, tx⟩ := x
  unfold playB
  dsimp only
  by_cases h0 : wh = 0
  · subst h0
    rw [if_pos rfl]
    cases lg with
    | true => exact posts_app_l h
    | false => exact posts_app_s h
  · rw [if_neg h0]
    by_cases h1 : wh = 1
    · subst h1
      rw [if_pos rfl]
      exact posts_flag h
    · rw [if_neg h1]
      by_cases h2 : wh = 2
      · subst h2
        rw [if_pos rfl]
        exact posts_exp h
      · rw [if_neg h2]
        by_cases h3 : wh = 3
        · subst h3
          rw [if_pos rfl]
          exact posts_look3 h
        · rw [if_neg h3]
          by_cases h4 : wh = 4
          · subst h4
            rw [if_pos rfl]
            exact posts_look4 h
          · rw [if_neg h4]
            by_cases h5 : wh = 5
            · subst h5
              rw [if_pos rfl]
              exact posts_know h
            · rw [if_neg h5]
              exact posts_none h h0 h1 h2 h3 h4 h5
end
end Go.Proofs.YteclajckkjocnaaGreatDoor
