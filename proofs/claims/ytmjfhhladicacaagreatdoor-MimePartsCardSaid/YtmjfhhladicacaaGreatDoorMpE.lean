/- The walks over the statement's samePart and the reference's FindPart: each returns what its plain function says. No condition. -/
import Derived.Test.YtmjfhhladicacaaGreatDoorMimeF
import Derived.Test.YtmjfhhladicacaaGreatDoorHeadI
import Derived.StillTailTactics
namespace Go.Proofs.YtmjfhhladicacaaGreatDoor
open Go.RowKit Go.Shelf

theorem reads_drew {w : World} {ok : Nat → Prop} {v : Value} {l : List PT} (h : Reads w ok v l) : Reads w.drew ok v l := reads_below h (Below.refl _ _).drew

set_option maxRecDepth 100000 in
set_option maxHeartbeats 8000000 in
/-- two readings of one part are the same part -/
theorem same_parts : ∀ (g : Nat) (p : PT) (ao bo : Option Addr) (cap cap' : Nat) (w : World) (ok ok' : Nat → Prop), Fine g p → Reads w ok (.slice ao p.ps.length cap) p.ps → Reads w ok' (.slice bo p.ps.length cap') p.ps →
    Calls Tryz.prog 7 #[aggP p ao cap, aggP p bo cap'] w fun e w' => e = .returned (.bool true) ∧ Below w.heap.size w w'
  | 0, p, ao, bo, cap, cap', w, ok, ok', h, _, _ => h.elim
  | g + 1, p, ao, bo, cap, cap', w, ok, ok', h, hR, hR' => by
    obtain ⟨_, _, _, _, hlen, hkids⟩ := h
    have IH := same_parts g
    obtain ⟨ty, bd, fr, te, ln, ps⟩ := p
    simp only [PT.ty, PT.bd, PT.fr, PT.to, PT.ln, PT.ps] at hlen hkids hR hR'
    show Calls _ _ #[.agg #[.string ⟨ty.toArray⟩, .string ⟨bd.toArray⟩, .int .i64 (fr : Int), .int .i64 (te : Int), .int .i64 (ln : Int), .slice ao ps.length cap], .agg #[.string ⟨ty.toArray⟩, .string ⟨bd.toArray⟩, .int .i64 (fr : Int), .int .i64 (te : Int), .int .i64 (ln : Int), .slice bo ps.length cap']] _ _
    have HR := Lib.hid hR
    have HR' := Lib.hid hR'
    clear hR hR'
    have y0 := ((Below.refl w.heap.size w).alloc (Nat.le_refl _) (.cells #[.string ⟨ty.toArray⟩, .string ⟨bd.toArray⟩, .int .i64 (fr : Int), .int .i64 (te : Int), .int .i64 (ln : Int), .slice ao ps.length cap] 25)).alloc (by rw [alloc_size]; omega) (.cells #[.string ⟨ty.toArray⟩, .string ⟨bd.toArray⟩, .int .i64 (fr : Int), .int .i64 (te : Int), .int .i64 (ln : Int), .slice bo ps.length cap'] 25)
    have xa := alloc_at (o := .cells #[.string ⟨ty.toArray⟩, .string ⟨bd.toArray⟩, .int .i64 (fr : Int), .int .i64 (te : Int), .int .i64 (ln : Int), .slice bo ps.length cap'] 25) (World.heap_alloc_new w (.cells #[.string ⟨ty.toArray⟩, .string ⟨bd.toArray⟩, .int .i64 (fr : Int), .int .i64 (te : Int), .int .i64 (ln : Int), .slice ao ps.length cap] 25))
    have xb := World.heap_alloc_new (w.alloc (.cells #[.string ⟨ty.toArray⟩, .string ⟨bd.toArray⟩, .int .i64 (fr : Int), .int .i64 (te : Int), .int .i64 (ln : Int), .slice ao ps.length cap] 25)) (.cells #[.string ⟨ty.toArray⟩, .string ⟨bd.toArray⟩, .int .i64 (fr : Int), .int .i64 (te : Int), .int .i64 (ln : Int), .slice bo ps.length cap'] 25)
    rw [alloc_size] at xb
    go_enter Tryz.func7, Tryz.ntmps7
    go_wp2_with fail
    go_loopg [5] ps.length (fun g5 s5 wr => ∃ (k : Nat), k + g5 = ps.length ∧ s5 = .int .i64 (k : Int) ∧ Below w.heap.size w wr ∧
      wr.heap[w.heap.size]? = some (.cells #[.string ⟨ty.toArray⟩, .string ⟨bd.toArray⟩, .int .i64 (fr : Int), .int .i64 (te : Int), .int .i64 (ln : Int), .slice ao ps.length cap] 25 (0, 0)) ∧
      wr.heap[w.heap.size + 1]? = some (.cells #[.string ⟨ty.toArray⟩, .string ⟨bd.toArray⟩, .int .i64 (fr : Int), .int .i64 (te : Int), .int .i64 (ln : Int), .slice bo ps.length cap'] 25 (0, 0)))
    case atStart => exact ⟨0, by omega, rfl, y0, xa, xb⟩
    case round =>
      obtain ⟨k, hk, rfl, hbr, hba, hbb⟩ := hrel
      clear y0 xa xb
      have x5 := (six_cells hba).2.2.2.2.2
      have z5 := (six_cells hbb).2.2.2.2.2
      by_cases hlt : k < ps.length
      · obtain ⟨g', rfl⟩ : ∃ g', gk = g' + 1 := ⟨gk - 1, by omega⟩
        obtain ⟨q, hq⟩ : ∃ q, ps[k]? = some q := ⟨ps[k], List.getElem?_eq_getElem hlt⟩
        have hRr := reads_keep (W' := wr) (ok' := ok) HR.out hbr.size (fun j _ hj => hbr.block j hj) (fun _ h _ => h)
        have hRq := reads_keep (W' := wr) (ok' := ok') HR'.out hbr.size (fun j _ hj => hbr.block j hj) (fun _ h _ => h)
        obtain ⟨gb, n0, cap0, aj, cj, he, hgb, _, d0, d1, d2, d3, d4, d5, hq5⟩ := reads_at hRr k q hq
        obtain ⟨gc, n1, cap1, bj, cj', he', hgc, _, e0, e1, e2, e3, e4, e5, hq6⟩ := reads_at hRq k q hq
        cases he
        cases he'
        have cI := IH q aj bj cj cj' _ ok ok' (hkids q (List.mem_of_getElem? hq)) (reads_drew hq5) (reads_drew hq6)
        have u := below_same (Below.refl wr.heap.size wr).drew hba
        have v := below_same (Below.refl wr.heap.size wr).drew hbb
        clear hRr hRq hq5 hq6 IH hq
        go_wp2_with fail
        go_still_tail 10, (by kernel_rfl)
        change wpList _ _ _ _ _ wr.drew
        go_wp2_with (go_at_call 7; go_loud (with_reducible refine cI.mono ?_; rintro e w1 ⟨rfl, h1⟩; have y := hbr.drew.trans (h1.mono hbr.drew.size); have u := below_same h1 u; have v := below_same h1 v))
        go_roundg g'
        case measure => omega
        case rel => exact ⟨k + 1, by omega, by go_num, y, u, v⟩
      · go_wp2_with fail
        go_ret
        exact ⟨rfl, hbr⟩

/-- a slice of numbers in memory -/
def NumRow (w : World) (an : Option Addr) (path : List Int) : Prop := ∀ (j : Nat) (n : Int), path[j]? = some n → ∃ b off, an = some ⟨b, off, none⟩ ∧ b < w.heap.size ∧ w.cell? ⟨b, off + j, none⟩ = some (.int .i64 n)
theorem NumRow.below {w w' : World} {an : Option Addr} {path : List Int} (h : NumRow w an path) (hb : Below w.heap.size w w') : NumRow w' an path := fun j n hj => by
  obtain ⟨b, off, h1, h2, h3⟩ := h j n hj
  exact ⟨b, off, h1, Nat.lt_of_lt_of_le h2 hb.size, (hb.cell (p := ⟨b, off + j, none⟩) h2).trans h3⟩

end Go.Proofs.YtmjfhhladicacaaGreatDoor
