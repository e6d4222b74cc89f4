/- The walk over letterboxlaw.MimeParts: it returns true, whatever it is given. Conditions: bytealg.MaxLen, letterboxref.Fine, errors.errorType and strconv's table of powers lie as the program's text lays them. -/
import Derived.Test.YtmjfhhladicacaaGreatDoorMpD
import Derived.Test.YtmjfhhladicacaaGreatDoorMpG
import Derived.Test.YtmjfhhladicacaaGreatDoorTell
import Derived.Deep.RegionHeld3
namespace Go.Proofs.YtmjfhhladicacaaGreatDoor
open Go.RowKit Go.Shelf

structure PartsG (w : World) : Prop where
  max : MaxL w
  fine : FineG w
  err : ErrTy w
  tab : TabW w
/-- what is returned where nothing is found -/
def zeroP : PT := .mk [] [] 0 0 0 []
def resT (o : Option PT) : PT := o.getD zeroP
theorem find_res {o : Option PT} {v : Value} {W : World} {ok : Nat → Prop} (h : FindRes o v W ok) : ∃ aq cq, v = .tuple #[aggP (resT o) aq cq, .bool o.isSome] ∧ Reads W ok (.slice aq (resT o).ps.length cq) (resT o).ps := by
  cases o with
  | none =>
    have h' : v = .tuple #[.agg zeroC, .bool false] := h
    exact ⟨none, 0, h', .empty⟩
  | some q => exact h
theorem find_fine : ∀ (path : List Int) (p t : PT) (g : Nat), Fine g p → findF p path = some t → ∃ g', Fine g' t
  | [], p, t, g, hF, h => by
    rw [find_nil] at h
    cases h
    exact ⟨g, hF⟩
  | n :: r, p, t, g, hF, h => by
    unfold findF at h
    split at h
    · cases h; exact ⟨g, hF⟩
    · split at h
      · cases h
      · split at h
        · rename_i q hq
          obtain ⟨g', h'⟩ := fine_kid hF (List.mem_of_getElem? hq)
          exact find_fine r q t g' h' h
        · cases h
theorem zero_fine : Fine 1 zeroP := ⟨Nat.le_refl _, by decide, by decide, by decide, by decide, fun q hq => by cases hq⟩
theorem res_fine {p : PT} {g : Nat} (hF : Fine g p) (path : List Int) : ∃ g', Fine g' (resT (findF p path)) := by
  cases h : findF p path with
  | none => exact ⟨1, zero_fine⟩
  | some t => exact find_fine path p t g hF h

set_option maxRecDepth 100000 in
set_option maxHeartbeats 8000000 in
theorem parts_none (s : List UInt8) (an : Option Addr) (capn : Nat) (path : List Int) (w : World) (hs : s.length ≤ 2000) (hp : path.length ≤ 10) (hG : PartsG w) (hR : (partF s 7 0 0 s.length).1 = none) :
    Calls Tryz.prog 3 #[.string ⟨s.toArray⟩, .slice an path.length capn] w fun e w' => e = .returned (.bool true) ∧ Below w.heap.size w w' := by
  have hts := text_size s
  have cR : ∀ W, MaxL W → FineG W → Calls Tryz.prog 4 #[.string ⟨s.toArray⟩] W fun e w' => e = .returned (.tuple #[.agg #[.string ⟨#[]⟩, .string ⟨#[]⟩, .int .i64 0, .int .i64 0, .int .i64 0, .slice none 0 0], .int .i64 4]) ∧ Below W.heap.size W w' := fun W h1 h2 => by
    refine (rparse_any s W (by omega) h1 h2).mono ?_
    rw [hR]
    rintro e w' ⟨v, rfl, h3, h4⟩
    have h3' : v = .tuple #[.agg zeroC, .int .i64 4] := h3
    exact ⟨by rw [h3'], h4⟩
  have cP : ∀ W, MaxL W → Calls Tryz.prog 5 #[.string ⟨s.toArray⟩] W fun e w' => e = .returned (.tuple #[.agg #[.string ⟨#[]⟩, .string ⟨#[]⟩, .int .i64 0, .int .i64 0, .int .i64 0, .slice none 0 0], .iface 26 (.int .i64 4)]) ∧ Below W.heap.size W w' := fun W h1 => by
    refine (parse_any s W (by omega) h1).mono ?_
    rw [hR]
    rintro e w' ⟨v, rfl, h3, h4⟩
    have h3' : v = .tuple #[.agg zeroC, .iface 26 (.int .i64 4)] := h3
    exact ⟨by rw [h3'], h4⟩
  have cB : ∀ W : World, ErrTy W → Calls Tryz.prog 6 #[.iface 26 (.int .i64 4), .int .i64 4] W fun e w' => e = .returned (.bool true) ∧ Below W.heap.size W w' := fun W hW => bare_err 4 4 W hW
  have cS : ∀ W, Calls Tryz.prog 7 #[.agg #[.string ⟨#[]⟩, .string ⟨#[]⟩, .int .i64 0, .int .i64 0, .int .i64 0, .slice none 0 0], .agg #[.string ⟨#[]⟩, .string ⟨#[]⟩, .int .i64 0, .int .i64 0, .int .i64 0, .slice none 0 0]] W fun e w' => e = .returned (.bool true) ∧ Below W.heap.size W w' := fun W =>
    same_parts 1 zeroP none none 0 0 W (fun _ => True) (fun _ => True) zero_fine .empty .empty
  have y := Below.refl w.heap.size w
  have HM : ∀ W, Below w.heap.size w W → MaxL W := fun W h => hG.max.below h
  have HF : ∀ W, Below w.heap.size w W → FineG W := fun W h => hG.fine.below h
  have HE : ∀ W, Below w.heap.size w W → ErrTy W := fun W h => errTy_below hG.err h
  have hsz : decide ((2000 : Int) < (s.length : Int)) = false := by rw [decide_eq_false_iff_not]; omega
  have hpz : decide ((10 : Int) < (path.length : Int)) = false := by rw [decide_eq_false_iff_not]; omega
  clear hR hG
  go_enter Tryz.func3, Tryz.ntmps3
  go_wp2_with (first
    | (go_at_call 4; with_reducible refine (cR _ (HM _ y) (HF _ y)).mono ?_; rintro e w1 ⟨rfl, h⟩; have y := y.trans (h.mono y.size); have y := y.alloc y.size (.cells #[.string ⟨#[]⟩, .string ⟨#[]⟩, .int .i64 0, .int .i64 0, .int .i64 0, .slice none 0 0] 25); have xr := World.heap_alloc_new w1 (.cells #[.string ⟨#[]⟩, .string ⟨#[]⟩, .int .i64 0, .int .i64 0, .int .i64 0, .slice none 0 0] 25))
    | (go_at_call 5; with_reducible refine (cP _ (HM _ y)).mono ?_; rintro e w2 ⟨rfl, h⟩; have y := y.trans (h.mono y.size); have xr := below_same h xr; have y := y.alloc y.size (.cells #[.string ⟨#[]⟩, .string ⟨#[]⟩, .int .i64 0, .int .i64 0, .int .i64 0, .slice none 0 0] 25); have xr := alloc_at (o := .cells #[.string ⟨#[]⟩, .string ⟨#[]⟩, .int .i64 0, .int .i64 0, .int .i64 0, .slice none 0 0] 25) xr; have xp := World.heap_alloc_new w2 (.cells #[.string ⟨#[]⟩, .string ⟨#[]⟩, .int .i64 0, .int .i64 0, .int .i64 0, .slice none 0 0] 25))
    | (go_at_call 6; with_reducible refine (cB _ (HE _ y)).mono ?_; rintro e w3 ⟨rfl, h⟩; have y := y.trans (h.mono y.size); have xr := below_same h xr; have xp := below_same h xp; have r0 := (six_cells xr).1; have r1 := (six_cells xr).2.1; have r2 := (six_cells xr).2.2.1; have r3 := (six_cells xr).2.2.2.1; have r4 := (six_cells xr).2.2.2.2.1; have r5 := (six_cells xr).2.2.2.2.2; have p0 := (six_cells xp).1; have p1 := (six_cells xp).2.1; have p2 := (six_cells xp).2.2.1; have p3 := (six_cells xp).2.2.2.1; have p4 := (six_cells xp).2.2.2.2.1; have p5 := (six_cells xp).2.2.2.2.2)
    | (go_at_call 7; with_reducible refine (cS _).mono ?_; rintro e w4 ⟨rfl, h⟩; have y := y.trans (h.mono y.size); have xr := below_same h xr; have xp := below_same h xp))
  go_ret
  exact ⟨rfl, y⟩

set_option maxRecDepth 100000 in
set_option maxHeartbeats 16000000 in
theorem parts_some (s : List UInt8) (an : Option Addr) (capn : Nat) (path : List Int) (w : World) (p : PT) (hs : s.length ≤ 2000) (hp : path.length ≤ 10) (hcap : path.length ≤ capn) (hcap2 : capn ≤ 9223372036854775807) (hN : NumRow w an path) (hG : PartsG w) (hR : (partF s 7 0 0 s.length).1 = some p) :
    Calls Tryz.prog 3 #[.string ⟨s.toArray⟩, .slice an path.length capn] w fun e w' => e = .returned (.bool true) ∧ Below w.heap.size w w' := by
  have hts := text_size s
  have hF : Fine 7 p := by
    refine part_fine s (by omega) 7 0 0 s.length p (partF s 7 0 0 s.length).2 (Nat.zero_le _) (Nat.le_refl _) (by decide) ?_
    rw [← hR]
  have cR : ∀ W, MaxL W → FineG W → Calls Tryz.prog 4 #[.string ⟨s.toArray⟩] W fun e w' => ∃ ar cr, e = .returned (.tuple #[.agg #[.string ⟨p.ty.toArray⟩, .string ⟨p.bd.toArray⟩, .int .i64 (p.fr : Int), .int .i64 (p.to : Int), .int .i64 (p.ln : Int), .slice ar p.ps.length cr], .int .i64 0]) ∧ Hid (Reads w' (fun _ => True) (.slice ar p.ps.length cr) p.ps) ∧ Below W.heap.size W w' := fun W h1 h2 => by
    refine (rparse_any s W (by omega) h1 h2).mono ?_
    rw [hR]
    rintro e w' ⟨v, rfl, ⟨pv, h3, h4⟩, h5⟩
    obtain ⟨ar, cr, rfl⟩ := reads_slice h4
    exact ⟨ar, cr, by rw [h3], reads_keep h4 (Nat.le_refl _) (fun _ _ _ => rfl) (fun _ _ _ => trivial), h5⟩
  have cP : ∀ W, MaxL W → Calls Tryz.prog 5 #[.string ⟨s.toArray⟩] W fun e w' => ∃ aq cq, e = .returned (.tuple #[.agg #[.string ⟨p.ty.toArray⟩, .string ⟨p.bd.toArray⟩, .int .i64 (p.fr : Int), .int .i64 (p.to : Int), .int .i64 (p.ln : Int), .slice aq p.ps.length cq], .nilIface]) ∧ Hid (Reads w' (fun _ => True) (.slice aq p.ps.length cq) p.ps) ∧ Below W.heap.size W w' := fun W h1 => by
    refine (parse_any s W (by omega) h1).mono ?_
    rw [hR]
    rintro e w' ⟨v, rfl, ⟨pv, h3, h4⟩, h5⟩
    obtain ⟨ar, cr, rfl⟩ := reads_slice h4
    exact ⟨ar, cr, by rw [h3], reads_keep h4 (Nat.le_refl _) (fun _ _ _ => rfl) (fun _ _ _ => trivial), h5⟩
  have cB : ∀ W : World, Calls Tryz.prog 6 #[.nilIface, .int .i64 0] W fun e w' => e = .returned (.bool true) ∧ Below W.heap.size W w' := fun W => bare_nil 0 W
  obtain ⟨gt, hT⟩ := res_fine hF path
  obtain ⟨T, hTe⟩ : ∃ T, resT (findF p path) = T := ⟨_, rfl⟩
  obtain ⟨FB, hFB⟩ : ∃ FB, (findF p path).isSome = FB := ⟨_, rfl⟩
  have cU : ∀ W ar cr, Reads W (fun _ => True) (.slice ar p.ps.length cr) p.ps → NumRow W an path → Calls Tryz.prog 8 #[.agg #[.string ⟨p.ty.toArray⟩, .string ⟨p.bd.toArray⟩, .int .i64 (p.fr : Int), .int .i64 (p.to : Int), .int .i64 (p.ln : Int), .slice ar p.ps.length cr], .slice an path.length capn] W fun e w' => ∃ au cu, e = .returned (.tuple #[.agg #[.string ⟨T.ty.toArray⟩, .string ⟨T.bd.toArray⟩, .int .i64 (T.fr : Int), .int .i64 (T.to : Int), .int .i64 (T.ln : Int), .slice au T.ps.length cu], .bool FB]) ∧ Hid (Reads w' (fun _ => True) (.slice au T.ps.length cu) T.ps) ∧ Below W.heap.size W w' := fun W ar cr h1 h2 => by
    refine (rfind_any W (fun _ => True) path p ar cr an capn W 7 h1 (Below.refl _ _) hF h2 hcap hcap2 (by omega)).mono ?_
    rintro e w' ⟨v, rfl, h3, h4⟩
    obtain ⟨au, cu, rfl, h5⟩ := find_res h3
    rw [hTe] at h5 ⊢
    rw [hFB]
    exact ⟨au, cu, rfl, reads_up h5 h4, h4⟩
  have cQ : ∀ W aq cq, Reads W (fun _ => True) (.slice aq p.ps.length cq) p.ps → NumRow W an path → Calls Tryz.prog 9 #[.agg #[.string ⟨p.ty.toArray⟩, .string ⟨p.bd.toArray⟩, .int .i64 (p.fr : Int), .int .i64 (p.to : Int), .int .i64 (p.ln : Int), .slice aq p.ps.length cq], .slice an path.length capn] W fun e w' => ∃ ax cx, e = .returned (.tuple #[.agg #[.string ⟨T.ty.toArray⟩, .string ⟨T.bd.toArray⟩, .int .i64 (T.fr : Int), .int .i64 (T.to : Int), .int .i64 (T.ln : Int), .slice ax T.ps.length cx], .bool FB]) ∧ Hid (Reads w' (fun _ => True) (.slice ax T.ps.length cx) T.ps) ∧ Below W.heap.size W w' := fun W aq cq h1 h2 => by
    refine (find_num p aq cq an capn path W (fun _ => True) h1 7 hF h2 (by omega)).mono ?_
    rintro e w' ⟨v, rfl, h3, h4⟩
    obtain ⟨ax, cx, rfl, h5⟩ := find_res h3
    rw [hTe] at h5 ⊢
    rw [hFB]
    exact ⟨ax, cx, rfl, h5, h4⟩
  have cS := fun W ar aq cr cq h1 h2 => same_parts 7 p aq ar cq cr W (fun _ => True) (fun _ => True) hF h1 h2
  rw [hTe] at hT
  have cS2 := fun W au ax cu cx h1 h2 => same_parts gt T ax au cx cu W (fun _ => True) (fun _ => True) hT h1 h2
  have cT := fun W aq cq h1 => tell_any 7 p aq cq W (fun _ => True) (Nat.le_refl _) hF h1
  have cV := fun W ar cr h1 h2 => rtell_any 7 p ar cr W (fun _ => True) (Nat.le_refl _) hF h1 h2
  have y := Below.refl w.heap.size w
  have HM : ∀ W, Below w.heap.size w W → MaxL W := fun W h => hG.max.below h
  have HF : ∀ W, Below w.heap.size w W → FineG W := fun W h => hG.fine.below h
  have HTb : ∀ W, Below w.heap.size w W → TabW W := fun W h => hG.tab.below h
  have HNw : ∀ W, Below w.heap.size w W → NumRow W an path := fun W h => hN.below h
  have hsz : decide ((2000 : Int) < (s.length : Int)) = false := by rw [decide_eq_false_iff_not]; omega
  have hpz : decide ((10 : Int) < (path.length : Int)) = false := by rw [decide_eq_false_iff_not]; omega
  generalize tellF 7 p = TT at cT cV
  clear hR hG hN hF hT hTe hFB
  go_enter Tryz.func3, Tryz.ntmps3
  go_wp2_with (first
    | (go_at_call 4; with_reducible refine (cR _ (HM _ y) (HF _ y)).mono ?_; rintro e w1 ⟨ar, cr, rfl, R, h⟩; have y := y.trans (h.mono y.size); have yl := (Below.refl w1.heap.size w1).alloc (Nat.le_refl _) (.cells #[.string ⟨p.ty.toArray⟩, .string ⟨p.bd.toArray⟩, .int .i64 (p.fr : Int), .int .i64 (p.to : Int), .int .i64 (p.ln : Int), .slice ar p.ps.length cr] 25); have R := Lib.hid (reads_up R.out yl); have y := y.alloc y.size (.cells #[.string ⟨p.ty.toArray⟩, .string ⟨p.bd.toArray⟩, .int .i64 (p.fr : Int), .int .i64 (p.to : Int), .int .i64 (p.ln : Int), .slice ar p.ps.length cr] 25); have xr := World.heap_alloc_new w1 (.cells #[.string ⟨p.ty.toArray⟩, .string ⟨p.bd.toArray⟩, .int .i64 (p.fr : Int), .int .i64 (p.to : Int), .int .i64 (p.ln : Int), .slice ar p.ps.length cr] 25))
    | (go_at_call 5; with_reducible refine (cP _ (HM _ y)).mono ?_; rintro e w2 ⟨aq, cq, rfl, P, h⟩; have y := y.trans (h.mono y.size); have xr := below_same h xr; have yl := (Below.refl w2.heap.size w2).alloc (Nat.le_refl _) (.cells #[.string ⟨p.ty.toArray⟩, .string ⟨p.bd.toArray⟩, .int .i64 (p.fr : Int), .int .i64 (p.to : Int), .int .i64 (p.ln : Int), .slice aq p.ps.length cq] 25); have R := Lib.hid (reads_up (reads_up R.out h) yl); have P := Lib.hid (reads_up P.out yl); have y := y.alloc y.size (.cells #[.string ⟨p.ty.toArray⟩, .string ⟨p.bd.toArray⟩, .int .i64 (p.fr : Int), .int .i64 (p.to : Int), .int .i64 (p.ln : Int), .slice aq p.ps.length cq] 25); have xr := alloc_at (o := (.cells #[.string ⟨p.ty.toArray⟩, .string ⟨p.bd.toArray⟩, .int .i64 (p.fr : Int), .int .i64 (p.to : Int), .int .i64 (p.ln : Int), .slice aq p.ps.length cq] 25)) xr; have xp := World.heap_alloc_new w2 (.cells #[.string ⟨p.ty.toArray⟩, .string ⟨p.bd.toArray⟩, .int .i64 (p.fr : Int), .int .i64 (p.to : Int), .int .i64 (p.ln : Int), .slice aq p.ps.length cq] 25))
    | (go_at_call 6; with_reducible refine (cB _).mono ?_; rintro e w3 ⟨rfl, h⟩; have y := y.trans (h.mono y.size); have xr := below_same h xr; have xp := below_same h xp; have R := Lib.hid (reads_up R.out h); have P := Lib.hid (reads_up P.out h); have r0 := (six_cells xr).1; have r1 := (six_cells xr).2.1; have r2 := (six_cells xr).2.2.1; have r3 := (six_cells xr).2.2.2.1; have r4 := (six_cells xr).2.2.2.2.1; have r5 := (six_cells xr).2.2.2.2.2; have p0 := (six_cells xp).1; have p1 := (six_cells xp).2.1; have p2 := (six_cells xp).2.2.1; have p3 := (six_cells xp).2.2.2.1; have p4 := (six_cells xp).2.2.2.2.1; have p5 := (six_cells xp).2.2.2.2.2)
    | (go_at_call 7; with_reducible refine (cS _ ar aq cr cq P.out R.out).mono ?_; rintro e w4 ⟨rfl, h⟩; have y := y.trans (h.mono y.size); have xr := below_same h xr; have xp := below_same h xp; have R := Lib.hid (reads_up R.out h); have P := Lib.hid (reads_up P.out h); have r0 := (six_cells xr).1; have r1 := (six_cells xr).2.1; have r2 := (six_cells xr).2.2.1; have r3 := (six_cells xr).2.2.2.1; have r4 := (six_cells xr).2.2.2.2.1; have r5 := (six_cells xr).2.2.2.2.2; have p0 := (six_cells xp).1; have p1 := (six_cells xp).2.1; have p2 := (six_cells xp).2.2.1; have p3 := (six_cells xp).2.2.2.1; have p4 := (six_cells xp).2.2.2.2.1; have p5 := (six_cells xp).2.2.2.2.2)
    | (go_at_call 8; with_reducible refine (cU _ ar cr R.out (HNw _ y)).mono ?_; rintro e w5 ⟨au, cu, rfl, U, h⟩; have y := y.trans (h.mono y.size); have yl := (Below.refl w5.heap.size w5).alloc (Nat.le_refl _) (.cells #[.string ⟨T.ty.toArray⟩, .string ⟨T.bd.toArray⟩, .int .i64 (T.fr : Int), .int .i64 (T.to : Int), .int .i64 (T.ln : Int), .slice au T.ps.length cu] 25); have xr := alloc_at (o := (.cells #[.string ⟨T.ty.toArray⟩, .string ⟨T.bd.toArray⟩, .int .i64 (T.fr : Int), .int .i64 (T.to : Int), .int .i64 (T.ln : Int), .slice au T.ps.length cu] 25)) (below_same h xr); have xp := alloc_at (o := (.cells #[.string ⟨T.ty.toArray⟩, .string ⟨T.bd.toArray⟩, .int .i64 (T.fr : Int), .int .i64 (T.to : Int), .int .i64 (T.ln : Int), .slice au T.ps.length cu] 25)) (below_same h xp); have R := Lib.hid (reads_up (reads_up R.out h) yl); have P := Lib.hid (reads_up (reads_up P.out h) yl); have U := Lib.hid (reads_up U.out yl); have xu := World.heap_alloc_new w5 (.cells #[.string ⟨T.ty.toArray⟩, .string ⟨T.bd.toArray⟩, .int .i64 (T.fr : Int), .int .i64 (T.to : Int), .int .i64 (T.ln : Int), .slice au T.ps.length cu] 25); have y := y.alloc y.size (.cells #[.string ⟨T.ty.toArray⟩, .string ⟨T.bd.toArray⟩, .int .i64 (T.fr : Int), .int .i64 (T.to : Int), .int .i64 (T.ln : Int), .slice au T.ps.length cu] 25); have r0 := (six_cells xr).1; have r1 := (six_cells xr).2.1; have r2 := (six_cells xr).2.2.1; have r3 := (six_cells xr).2.2.2.1; have r4 := (six_cells xr).2.2.2.2.1; have r5 := (six_cells xr).2.2.2.2.2; have p0 := (six_cells xp).1; have p1 := (six_cells xp).2.1; have p2 := (six_cells xp).2.2.1; have p3 := (six_cells xp).2.2.2.1; have p4 := (six_cells xp).2.2.2.2.1; have p5 := (six_cells xp).2.2.2.2.2)
    | (go_at_call 9; with_reducible refine (cQ _ aq cq P.out (HNw _ y)).mono ?_; rintro e w6 ⟨ax, cx, rfl, X, h⟩; have y := y.trans (h.mono y.size); have yl := (Below.refl w6.heap.size w6).alloc (Nat.le_refl _) (.cells #[.string ⟨T.ty.toArray⟩, .string ⟨T.bd.toArray⟩, .int .i64 (T.fr : Int), .int .i64 (T.to : Int), .int .i64 (T.ln : Int), .slice ax T.ps.length cx] 25); have xr := alloc_at (o := (.cells #[.string ⟨T.ty.toArray⟩, .string ⟨T.bd.toArray⟩, .int .i64 (T.fr : Int), .int .i64 (T.to : Int), .int .i64 (T.ln : Int), .slice ax T.ps.length cx] 25)) (below_same h xr); have xp := alloc_at (o := (.cells #[.string ⟨T.ty.toArray⟩, .string ⟨T.bd.toArray⟩, .int .i64 (T.fr : Int), .int .i64 (T.to : Int), .int .i64 (T.ln : Int), .slice ax T.ps.length cx] 25)) (below_same h xp); have xu := alloc_at (o := (.cells #[.string ⟨T.ty.toArray⟩, .string ⟨T.bd.toArray⟩, .int .i64 (T.fr : Int), .int .i64 (T.to : Int), .int .i64 (T.ln : Int), .slice ax T.ps.length cx] 25)) (below_same h xu); have R := Lib.hid (reads_up (reads_up R.out h) yl); have P := Lib.hid (reads_up (reads_up P.out h) yl); have U := Lib.hid (reads_up (reads_up U.out h) yl); have X := Lib.hid (reads_up X.out yl); have xx := World.heap_alloc_new w6 (.cells #[.string ⟨T.ty.toArray⟩, .string ⟨T.bd.toArray⟩, .int .i64 (T.fr : Int), .int .i64 (T.to : Int), .int .i64 (T.ln : Int), .slice ax T.ps.length cx] 25); have y := y.alloc y.size (.cells #[.string ⟨T.ty.toArray⟩, .string ⟨T.bd.toArray⟩, .int .i64 (T.fr : Int), .int .i64 (T.to : Int), .int .i64 (T.ln : Int), .slice ax T.ps.length cx] 25)))
  obtain ⟨W1, hW1⟩ : ∃ W1 : World, w6.alloc (.cells #[.string ⟨T.ty.toArray⟩, .string ⟨T.bd.toArray⟩, .int .i64 (T.fr : Int), .int .i64 (T.to : Int), .int .i64 (T.ln : Int), .slice ax T.ps.length cx] 25) = W1 := ⟨_, rfl⟩
  rw [hW1] at xr xp xu xx y R P U X ⊢
  clear hW1 r0 r1 r2 r3 r4 r5 p0 p1 p2 p3 p4 p5
  have y := y.drew
  have xr : W1.drew.heap[w1.heap.size]? = some (.cells #[.string ⟨p.ty.toArray⟩, .string ⟨p.bd.toArray⟩, .int .i64 (p.fr : Int), .int .i64 (p.to : Int), .int .i64 (p.ln : Int), .slice ar p.ps.length cr] 25 (0, 0)) := xr
  have xp : W1.drew.heap[w2.heap.size]? = some (.cells #[.string ⟨p.ty.toArray⟩, .string ⟨p.bd.toArray⟩, .int .i64 (p.fr : Int), .int .i64 (p.to : Int), .int .i64 (p.ln : Int), .slice aq p.ps.length cq] 25 (0, 0)) := xp
  have xu : W1.drew.heap[w5.heap.size]? = some (.cells #[.string ⟨T.ty.toArray⟩, .string ⟨T.bd.toArray⟩, .int .i64 (T.fr : Int), .int .i64 (T.to : Int), .int .i64 (T.ln : Int), .slice au T.ps.length cu] 25 (0, 0)) := xu
  have xx : W1.drew.heap[w6.heap.size]? = some (.cells #[.string ⟨T.ty.toArray⟩, .string ⟨T.bd.toArray⟩, .int .i64 (T.fr : Int), .int .i64 (T.to : Int), .int .i64 (T.ln : Int), .slice ax T.ps.length cx] 25 (0, 0)) := xx
  have R := Lib.hid (reads_drew R.out)
  have P := Lib.hid (reads_drew P.out)
  have U := Lib.hid (reads_drew U.out)
  have X := Lib.hid (reads_drew X.out)
  go_region_held3 (fun W => W.cell? ⟨w1.heap.size, 0, none⟩ = some (.string ⟨p.ty.toArray⟩) ∧ W.cell? ⟨w1.heap.size, 1, none⟩ = some (.string ⟨p.bd.toArray⟩) ∧ W.cell? ⟨w1.heap.size, 2, none⟩ = some (.int .i64 (p.fr : Int)) ∧ W.cell? ⟨w1.heap.size, 3, none⟩ = some (.int .i64 (p.to : Int)) ∧ W.cell? ⟨w1.heap.size, 4, none⟩ = some (.int .i64 (p.ln : Int)) ∧ W.cell? ⟨w1.heap.size, 5, none⟩ = some (.slice ar p.ps.length cr) ∧ W.cell? ⟨w2.heap.size, 0, none⟩ = some (.string ⟨p.ty.toArray⟩) ∧ W.cell? ⟨w2.heap.size, 1, none⟩ = some (.string ⟨p.bd.toArray⟩) ∧ W.cell? ⟨w2.heap.size, 2, none⟩ = some (.int .i64 (p.fr : Int)) ∧ W.cell? ⟨w2.heap.size, 3, none⟩ = some (.int .i64 (p.to : Int)) ∧ W.cell? ⟨w2.heap.size, 4, none⟩ = some (.int .i64 (p.ln : Int)) ∧ W.cell? ⟨w2.heap.size, 5, none⟩ = some (.slice aq p.ps.length cq) ∧ W.cell? ⟨w5.heap.size, 0, none⟩ = some (.string ⟨T.ty.toArray⟩) ∧ W.cell? ⟨w5.heap.size, 1, none⟩ = some (.string ⟨T.bd.toArray⟩) ∧ W.cell? ⟨w5.heap.size, 2, none⟩ = some (.int .i64 (T.fr : Int)) ∧ W.cell? ⟨w5.heap.size, 3, none⟩ = some (.int .i64 (T.to : Int)) ∧ W.cell? ⟨w5.heap.size, 4, none⟩ = some (.int .i64 (T.ln : Int)) ∧ W.cell? ⟨w5.heap.size, 5, none⟩ = some (.slice au T.ps.length cu) ∧ W.cell? ⟨w6.heap.size, 0, none⟩ = some (.string ⟨T.ty.toArray⟩) ∧ W.cell? ⟨w6.heap.size, 1, none⟩ = some (.string ⟨T.bd.toArray⟩) ∧ W.cell? ⟨w6.heap.size, 2, none⟩ = some (.int .i64 (T.fr : Int)) ∧ W.cell? ⟨w6.heap.size, 3, none⟩ = some (.int .i64 (T.to : Int)) ∧ W.cell? ⟨w6.heap.size, 4, none⟩ = some (.int .i64 (T.ln : Int)) ∧ W.cell? ⟨w6.heap.size, 5, none⟩ = some (.slice ax T.ps.length cx))
    (first | with_reducible exact ⟨(six_cells xr).1, (six_cells xr).2.1, (six_cells xr).2.2.1, (six_cells xr).2.2.2.1, (six_cells xr).2.2.2.2.1, (six_cells xr).2.2.2.2.2, (six_cells xp).1, (six_cells xp).2.1, (six_cells xp).2.2.1, (six_cells xp).2.2.2.1, (six_cells xp).2.2.2.2.1, (six_cells xp).2.2.2.2.2, (six_cells xu).1, (six_cells xu).2.1, (six_cells xu).2.2.1, (six_cells xu).2.2.2.1, (six_cells xu).2.2.2.2.1, (six_cells xu).2.2.2.2.2, (six_cells xx).1, (six_cells xx).2.1, (six_cells xx).2.2.1, (six_cells xx).2.2.2.1, (six_cells xx).2.2.2.2.1, (six_cells xx).2.2.2.2.2⟩ | exact ⟨(six_cells xr).1, (six_cells xr).2.1, (six_cells xr).2.2.1, (six_cells xr).2.2.2.1, (six_cells xr).2.2.2.2.1, (six_cells xr).2.2.2.2.2, (six_cells xp).1, (six_cells xp).2.1, (six_cells xp).2.2.1, (six_cells xp).2.2.2.1, (six_cells xp).2.2.2.2.1, (six_cells xp).2.2.2.2.2, (six_cells xu).1, (six_cells xu).2.1, (six_cells xu).2.2.1, (six_cells xu).2.2.2.1, (six_cells xu).2.2.2.2.1, (six_cells xu).2.2.2.2.2, (six_cells xx).1, (six_cells xx).2.1, (six_cells xx).2.2.1, (six_cells xx).2.2.2.1, (six_cells xx).2.2.2.2.1, (six_cells xx).2.2.2.2.2⟩)
    (first
      | (go_at_call 7; with_reducible refine (cS2 _ au ax cu cx X.out U.out).mono ?_; rintro e w7 ⟨rfl, h⟩; have y := y.trans (h.mono y.size); have xr := below_same h xr; have xp := below_same h xp; have xu := below_same h xu; have xx := below_same h xx; have R := Lib.hid (reads_up R.out h); have P := Lib.hid (reads_up P.out h); have U := Lib.hid (reads_up U.out h); have X := Lib.hid (reads_up X.out h))
      | (go_at_call 10; with_reducible refine (cT _ aq cq P.out).mono ?_; rintro e w8 ⟨rfl, h⟩; have y := y.trans (h.mono y.size); have xr := below_same h xr; have xp := below_same h xp; have xu := below_same h xu; have xx := below_same h xx; have R := Lib.hid (reads_up R.out h); have P := Lib.hid (reads_up P.out h); have U := Lib.hid (reads_up U.out h); have X := Lib.hid (reads_up X.out h))
      | (go_at_call 11; with_reducible refine (cV _ ar cr R.out (HTb _ y)).mono ?_; rintro e w9 ⟨rfl, h⟩; have y := y.trans (h.mono y.size); have xr := below_same h xr; have xp := below_same h xp; have xu := below_same h xu; have xx := below_same h xx; have R := Lib.hid (reads_up R.out h); have P := Lib.hid (reads_up P.out h); have U := Lib.hid (reads_up U.out h); have X := Lib.hid (reads_up X.out h)))
  go_wp2_with fail
  go_ret
  exact ⟨rfl, y⟩

set_option maxRecDepth 100000 in
set_option maxHeartbeats 2000000 in
theorem mimeParts_any (s : List UInt8) (an : Option Addr) (capn : Nat) (path : List Int) (w : World) (hs : s.length ≤ 9223372036854775807) (hp : path.length ≤ 9223372036854775807) (hcap : path.length ≤ capn) (hcap2 : capn ≤ 9223372036854775807) (hN : NumRow w an path) (hG : PartsG w) :
    Calls Tryz.prog 3 #[.string ⟨s.toArray⟩, .slice an path.length capn] w fun e w' => e = .returned (.bool true) ∧ Below w.heap.size w w' := by
  have hts := text_size s
  by_cases h1 : (2000 : Int) < (s.length : Int)
  · go_enter Tryz.func3, Tryz.ntmps3
    go_wp2_with fail
    go_ret
    exact ⟨rfl, Below.refl _ _⟩
  by_cases h2 : (10 : Int) < (path.length : Int)
  · go_enter Tryz.func3, Tryz.ntmps3
    go_wp2_with fail
    go_ret
    exact ⟨rfl, Below.refl _ _⟩
  cases hR : (partF s 7 0 0 s.length).1 with
  | none => exact parts_none s an capn path w (by omega) (by omega) hG hR
  | some p => exact parts_some s an capn path w p (by omega) (by omega) hcap hcap2 hN hG hR
end Go.Proofs.YtmjfhhladicacaaGreatDoor
