/- The walk over flags.Set: it returns what its plain function says. Conditions: flags.system lies as the program's text lays it. -/
import Derived.Test.YteabnpahhkicaaaDoorFlagC
import Derived.Sort.OwnSorted
import Derived.Deep.AppendLies
import Derived.Lib.RowBridge
namespace Go.Proofs.YteabnpahhkicaaaDoor
open Go.RowKit Go.Shelf Go.Sort

/-- a slice of texts -/
def SRow (w : World) (v : Value) (l : List (List UInt8)) : Prop := ∃ ao cap, v = .slice ao l.length cap ∧ l.length ≤ cap ∧ (cap ≤ 9223372036854775807 ∧ (ao = none → cap = 0)) ∧ ∀ (j : Nat) (t : List UInt8), l[j]? = some t → ∃ b off, ao = some ⟨b, off, none⟩ ∧ b < w.heap.size ∧ w.cell? ⟨b, off + j, none⟩ = some (.string ⟨t.toArray⟩)
theorem SRow.below {w w' : World} {v : Value} {l : List (List UInt8)} (h : SRow w v l) (hb : Below w.heap.size w w') : SRow w' v l := by
  obtain ⟨ao, cap, h1, h2, h3, h4⟩ := h
  refine ⟨ao, cap, h1, h2, h3, fun j t hj => ?_⟩
  obtain ⟨b, off, e1, e2, e3⟩ := h4 j t hj
  exact ⟨b, off, e1, Nat.lt_of_lt_of_le e2 hb.size, (hb.cell (p := ⟨b, off + j, none⟩) e2).trans e3⟩
theorem SRow.nil (w : World) : SRow w (.slice none 0 0) [] := ⟨none, 0, rfl, Nat.le_refl _, ⟨by decide, fun _ => rfl⟩, fun j t h => by simp at h⟩
/-- the row's block holds strings, as its kind says -/
def STag (w : World) (v : Value) : Prop := ∀ a n c, v = .slice (some a) n c → ∃ cur fz, w.heap[a.block]? = some (.cells cur 9 fz)
theorem STag.below {w w' : World} {v : Value} (h : STag w v) (hb : Below w.heap.size w w') : STag w' v := fun a n c e => by
  obtain ⟨cur, fz, hh⟩ := h a n c e
  exact ⟨cur, fz, (hb.block _ (Array.getElem?_eq_some_iff.1 hh).1).trans hh⟩
theorem stag_owns {w : World} {B n : Nat} {v : Value} {xs : List Value} (h : w.ownsRow B 9 1 v n xs) : STag w v := fun a n' c e => by
  rcases h.2 with ⟨rfl, _⟩ | ⟨g, cap, cur, rfl, _, hh, _⟩
  · cases e
  · cases e; exact ⟨cur, _, hh⟩
theorem stag_cut {w : World} {a : Option Addr} {n c n' c' : Nat} (h : STag w (.slice a n c)) : STag w (.slice a n' c') := fun a' _ _ e => by
  cases e
  exact h a' _ _ rfl
/-- a slice of texts in a block of texts -/
def TRow (w : World) (v : Value) (l : List (List UInt8)) : Prop := SRow w v l ∧ STag w v
theorem TRow.below {w w' : World} {v : Value} {l : List (List UInt8)} (h : TRow w v l) (hb : Below w.heap.size w w') : TRow w' v l := ⟨h.1.below hb, h.2.below hb⟩
theorem TRow.row {w : World} {v : Value} {l : List (List UInt8)} (h : TRow w v l) : SRow w v l := h.1
theorem TRow.nil (w : World) : TRow w (.slice none 0 0) [] := ⟨SRow.nil w, fun _ _ _ e => by cases e⟩
theorem str_info : (Tryd.prog.info? 9).map (fun i => (i.zero, i.size, i.bytes)) = some (some (.string ByteArray.empty), 1, 16) := by kernel_rfl
/-- texts short enough -/
def Short (l : List (List UInt8)) : Prop := l.length ≤ 100000 ∧ ∀ t ∈ l, t.length ≤ 100000

def namesF : List (List UInt8) → Nat ⊕ List (List UInt8)
  | [] => .inr []
  | s :: r => match nameF s with
    | .inl n => .inl n
    | .inr t => match namesF r with
      | .inl n => .inl n
      | .inr ns => .inr (t :: ns)
def joinN (acc : List (List UInt8)) : Nat ⊕ List (List UInt8) → Nat ⊕ List (List UInt8)
  | .inl n => .inl n
  | .inr ns => .inr (acc ++ ns)
/-- flags by their names, in order, each once; or what is wrong -/
def setF (l : List (List UInt8)) : Nat ⊕ List (List UInt8) := match namesF l with
  | .inl n => .inl n
  | .inr ns => if 12 < (canonF ns).length then .inl 4 else .inr (canonF ns)
theorem join_nil (r : Nat ⊕ List (List UInt8)) : joinN [] r = r := by cases r <;> rfl
theorem join_ok {acc : List (List UInt8)} {s t : List UInt8} {r : List (List UInt8)} (h : nameF s = .inr t) : joinN acc (namesF (s :: r)) = joinN (acc ++ [t]) (namesF r) := by
  rw [namesF, h]
  cases namesF r <;> simp [joinN]
theorem join_bad {acc : List (List UInt8)} {s : List UInt8} {n : Nat} {r : List (List UInt8)} (h : nameF s = .inl n) : joinN acc (namesF (s :: r)) = .inl n := by
  rw [namesF, h]; rfl
/-- what Set returns -/
def SetRes (R : Nat ⊕ List (List UInt8)) (v : Value) (W : World) : Prop := match R with
  | .inl n => v = .tuple #[.slice none 0 0, .iface 71 (.int .i64 (n : Int))]
  | .inr L => ∃ sv, v = .tuple #[sv, .nilIface] ∧ TRow W sv L

theorem flagG_lt {w : World} (h : FlagG w) : 0 < w.heap.size := h.elim fun _ h => (Array.getElem?_eq_some_iff.1 h).1
theorem sort_world_flag {w : World} (hG : FlagG w) {g m : Nat} {d : Array (List UInt8)} {os : Array Obj} (hg : g ≠ 0) : FlagG (sortWorld encStr w g 0 m d os) := by
  have h := (grownBy_sorted (w := w) (g := g) (n := m) (os := os) d).block 0 (flagG_lt hG) (fun e => hg (Option.some.inj e).symm)
  exact hG.elim fun T hG => ⟨T, h.trans hG⟩
theorem encStr_one : OneCell encStr := fun _ => rfl

/-- the sort of a row of texts that the call owns -/
theorem sortF_any (acc : List (List UInt8)) (ov : Value) (B : Nat) (w : World) (hown : w.ownsRow B 9 1 ov acc.length (acc.map encStr)) (hG : FlagG w) (hB : 0 < B) (hne : acc ≠ []) (hl : acc.length ≤ 1000000) :
    Calls Tryd.prog 34 #[ov, .func (.func 35) #[] #[]] w fun e w' => e = .returned (.tuple #[]) ∧ ∃ d : List (List UInt8), Hid (d.length = acc.length) ∧ w'.ownsRow B 9 1 ov acc.length (d.map encStr) ∧ w.grownBy w' ov.ownBlock ∧ Hid (Lib.compact d = canonF acc) := by
  rcases hown.2 with ⟨rfl, h0⟩ | ⟨g, cap, cur, rfl, hbase, hb, h1, h2, h3, h4⟩
  · exact absurd (List.eq_nil_of_length_eq_zero h0) hne
  · have hgne : g ≠ 0 := by omega
    have hcmp : CmpLays1 Tryd.prog 35 #[] encStr cmpF g 0 acc.toArray.size w := CmpReads.lays (fun m os dk _ x y => (order_any x y _ (sort_world_flag hG hgne)).mono (by rintro e w' ⟨rfl, rfl⟩; exact ⟨rfl, 0, rfl⟩))
    have hH : Holds encStr w g 0 acc.toArray := holds_of_block hb (by simpa using h4)
    have hc := Tryd.slices_SortFunc encStr encStr_one cmpF swo_lt 35 #[] g 0 cap acc.toArray w (enters_of Tryd.func35 (by kernel_rfl) rfl) hcmp hH (Array.getElem?_eq_some_iff.1 hb).1 (by simp; omega)
    refine hc.mono ?_
    rintro e w' ⟨rfl, d', n, os, hp, hs, rfl⟩
    have hsz : d'.toList.length = acc.length := by have := hp.1; simpa using this
    refine ⟨rfl, d'.toList, hsz, ?_, grownBy_sorted d', sort_compact hp hs⟩
    have := ownsRow_sorted (n := n) (os := os) hsz hbase hb h1 h2 h3
    simpa [sortWorld] using this

/-- the compaction of such a row -/
theorem compactF_any (d : List (List UInt8)) (n : Nat) (ov : Value) (B : Nat) (w : World) (hd : d.length = n) (hown : w.ownsRow B 9 1 ov n (d.map encStr)) (hne : 0 < n) (hn : n ≤ 1000000) :
    Calls Tryd.prog 36 #[ov] w fun e w' => ∃ ao cap, e = .returned (.slice ao (Lib.compact d).length cap) ∧ TRow w' (.slice ao (Lib.compact d).length cap) (Lib.compact d) ∧ w.grownBy w' ov.ownBlock := by
  subst hd
  rcases hown.2 with ⟨rfl, h0⟩ | ⟨g, cap, cur, rfl, hbase, hb, h1, h2, h3, h4⟩
  · omega
  · have hH : Holds encStr w g 0 d.toArray := holds_of_block hb (by simpa using h4)
    have hle : (Lib.compact d).length ≤ d.length := Lib.compact_length_le d
    refine (Tryd.slices_Compact_string g 0 cap d w hH (by omega) h1).mono ?_
    rintro e w' ⟨rfl, q, rfl⟩
    have hgr : w.grownBy (grow (putRow encStr (Sort.ahead w q) g 0 (Lib.compact d ++ List.replicate (d.length - (Lib.compact d).length) []).toArray) #[]) (some g) := grownBy_sorted _
    have ho := ownsRow_sorted (ss := d) (ts := Lib.compact d ++ List.replicate (d.length - (Lib.compact d).length) []) (n := q) (os := #[]) (by simp; omega) hbase hb h1 h2 h3
    rw [grow_empty] at hgr ho
    refine ⟨_, cap, rfl, ⟨⟨_, cap, rfl, by omega, ⟨by unfold maxLen at h2; omega, fun h => by cases h⟩, fun j t hj => ?_⟩, stag_cut (stag_owns ho)⟩, hgr⟩
    have hjl : j < (Lib.compact d).length := (List.getElem?_eq_some_iff.1 hj).1
    refine ⟨g, 0, rfl, Nat.lt_of_lt_of_le (Array.getElem?_eq_some_iff.1 hb).1 hgr.size, ?_⟩
    rw [Nat.zero_add]
    refine owns_cell ho ?_
    rw [List.getElem?_map, List.getElem?_append_left hjl, hj]
    rfl

set_option maxRecDepth 100000 in
set_option maxHeartbeats 8000000 in
theorem set_any (v : Value) (l : List (List UInt8)) (w : World) (hv : SRow w v l) (hl : Short l) (hG : FlagG w) :
    Calls Tryd.prog 27 #[v] w fun e w' => ∃ r, e = .returned r ∧ SetRes (setF l) r w' ∧ Below w.heap.size w w' := by
  obtain ⟨ao, cap, rfl, hcap, _, hcell⟩ := hv
  obtain ⟨hll, htl⟩ := hl
  have hGl := flagG_lt hG
  have HC := Lib.hid hcell
  have HT := Lib.hid htl
  obtain ⟨R, hR⟩ : ∃ R, setF l = R := ⟨_, rfl⟩
  rw [hR]
  have HR := Lib.hid hR
  clear hcell htl hR
  go_enter Tryd.func27, Tryd.ntmps27
  go_wp2_with fail
  go_loopg [4, 11] l.length (fun g4 s4 s11 wr => ∃ (k : Nat) (acc : List (List UInt8)) (ov : Value), k + g4 = l.length ∧ s11 = .int .i64 (k : Int) ∧ ov = s4 ∧ acc.length = k ∧ wr.ownsRow w.heap.size 9 1 ov acc.length (acc.map encStr) ∧ Below w.heap.size w wr ∧ (acc = [] → ov = .slice none 0 0) ∧ Hid (namesF l = joinN acc (namesF (l.drop k))))
  case atStart => exact ⟨0, [], _, by omega, rfl, rfl, rfl, World.ownsRow_nil _ _ _ _, Below.refl _ _, fun _ => rfl, by show _ = _; rw [List.drop_zero, join_nil]⟩
  case round =>
    obtain ⟨k, acc, ov, hk, rfl, rfl, hak, hown, hbr, hnil, HN⟩ := hrel
    by_cases hlt : k < l.length
    · obtain ⟨g', rfl⟩ : ∃ g', gk = g' + 1 := ⟨gk - 1, by omega⟩
      obtain ⟨s, hs⟩ : ∃ s, l[k]? = some s := ⟨l[k], List.getElem?_eq_getElem hlt⟩
      obtain ⟨b, off, rfl, hb, hc⟩ := HC.out k s hs
      have hd := (hbr.cell (p := ⟨b, off + k, none⟩) hb).trans hc
      have hsl := HT.out s (List.mem_of_getElem? hs)
      have hdr : l.drop k = s :: l.drop (k + 1) := by
        rw [List.drop_eq_getElem_cons hlt]
        rw [List.getElem?_eq_getElem hlt] at hs
        rw [Option.some.inj hs]
      have hN := HN.out
      rw [hdr] at hN
      have cN := fname_any s wr (by omega) (hG.below hbr)
      cases hn : nameF s with
      | inl n =>
        rw [join_bad hn] at hN
        rw [hn] at cN
        have hX : R = .inl n := by rw [← HR.out, setF, hN]
        have HX := Lib.hid hX
        have cN2 : Calls Tryd.prog 33 #[.string ⟨s.toArray⟩] wr fun e w' => e = .returned (.tuple #[.string ⟨#[]⟩, .iface 71 (.int .i64 (n : Int))]) ∧ Below wr.heap.size wr w' := cN
        clear hN hn hX hdr hs cN HN hc
        go_wp2_with (go_at_call 33; with_reducible refine cN2.mono ?_; rintro e w1 ⟨rfl, h⟩; have y := hbr.trans (h.mono hbr.size))
        go_ret2
        exact ⟨_, rfl, by rw [HX.out]; rfl, y⟩
      | inr t =>
        rw [join_ok hn] at hN
        rw [hn] at cN
        have HN2 : Hid (namesF l = joinN (acc ++ [t]) (namesF (l.drop (k + 1)))) := hN
        have cN2 : Calls Tryd.prog 33 #[.string ⟨s.toArray⟩] wr fun e w' => e = .returned (.tuple #[.string ⟨t.toArray⟩, .nilIface]) ∧ Below wr.heap.size wr w' := cN
        have HA := Lib.hid hak
        have hal : acc.length ≤ 100000 := by omega
        clear hN hn hdr hs cN HN hc hak hnil
        go_wp2_with (first
          | (go_at_call 33; with_reducible refine cN2.mono ?_; rintro e w1 ⟨rfl, h⟩; have y := hbr.trans (h.mono hbr.size); have o1 := owns_same hown (fun j o hj _ => below_same h hj))
          | (at_builtin; go_must (refine wpList_app1 rfl _ _ 34 rfl 9 Tryd.underlying34 str_info rfl w.heap.size _ _ _ _ rfl o1 _ rfl rfl ?hn (by decide) ?hb ?_)))
        case hn => omega
        case hb => exact y.size
        intro v' w2 o2 g2 hv2
        have y2 := below_app y y.size o1 g2
        have o3 : w2.ownsRow w.heap.size 9 1 v' (acc ++ [t]).length ((acc ++ [t]).map encStr) := by
          rw [List.length_append, List.map_append]; exact o2
        go_wp2_with fail
        go_roundg g'
        case measure => omega
        case rel => exact ⟨k + 1, acc ++ [t], _, by omega, by go_num, rfl, by rw [List.length_append, HA.out]; rfl, o3, y2, fun h => by simp at h, HN2.out⟩
    · have hd0 : l.drop k = [] := List.drop_eq_nil_of_le (by omega)
      have hN := HN.out
      rw [hd0] at hN
      have hN2 : namesF l = .inr acc := by rw [hN]; show joinN acc (.inr []) = _; simp [joinN]
      have hX : R = if 12 < (canonF acc).length then .inl 4 else .inr (canonF acc) := by rw [← HR.out, setF, hN2]
      have HX := Lib.hid hX
      clear hN hN2 hX hd0 HN
      by_cases hne : acc = []
      · obtain rfl := hnil hne
        subst hne
        have cS := fun W => Tryd.slices_SortFunc_none (α := List UInt8) none 0 (.func (.func 35) #[] #[]) W
        have cC := fun W => Tryd.slices_Compact_string_empty none 0 W
        clear hnil hown
        go_wp2_with (first
          | (go_at_call 34; with_reducible refine (cS _).mono ?_; rintro e w1 ⟨rfl, hw⟩; rw [hw]; clear hw)
          | (go_at_call 36; with_reducible refine (cC _).mono ?_; rintro e w1 ⟨rfl, hw⟩; rw [hw]; clear hw))
        go_ret2
        exact ⟨_, rfl, by rw [HX.out]; exact ⟨_, rfl, TRow.nil _⟩, hbr⟩
      · have cS := sortF_any acc ov w.heap.size wr hown (hG.below hbr) hGl hne (by omega)
        have hpos : 0 < acc.length := List.length_pos_iff.2 hne
        have cC := fun d W hd ho => compactF_any d acc.length ov w.heap.size W hd ho hpos (by omega)
        have hlt2 := hown.lt
        have cle := canon_len acc
        have hcl : (canonF acc).length ≤ 100000 := by omega
        clear hnil hne cle
        by_cases h12 : 12 < (canonF acc).length
        · have h12z : (12 : Int) < ((canonF acc).length : Int) := by omega
          go_wp2_with (first
            | (go_at_call 34; go_loud (with_reducible refine cS.mono ?_; rintro e w1 ⟨rfl, d, hd, o1, g1, hcd⟩; have y := hbr.grown g1 hbr.size (fun j h => (hlt2 j h).1); have cC1 := cC d w1 hd.out o1; rw [hcd.out] at cC1))
            | (go_at_call 36; go_loud (with_reducible refine cC1.mono ?_; rintro e w2 ⟨aq, cq, rfl, hr, g2⟩; have y := y.grown g2 y.size (fun j h => (hlt2 j h).1))))
          go_ret2
          exact ⟨_, rfl, by rw [HX.out, if_pos h12]; rfl, y⟩
        · have h12z : ¬((12 : Int) < ((canonF acc).length : Int)) := by omega
          go_wp2_with (first
            | (go_at_call 34; go_loud (with_reducible refine cS.mono ?_; rintro e w1 ⟨rfl, d, hd, o1, g1, hcd⟩; have y := hbr.grown g1 hbr.size (fun j h => (hlt2 j h).1); have cC1 := cC d w1 hd.out o1; rw [hcd.out] at cC1))
            | (go_at_call 36; go_loud (with_reducible refine cC1.mono ?_; rintro e w2 ⟨aq, cq, rfl, hr, g2⟩; have y := y.grown g2 y.size (fun j h => (hlt2 j h).1))))
          go_ret2
          exact ⟨_, rfl, by rw [HX.out, if_neg h12]; exact ⟨_, rfl, hr⟩, y⟩
end Go.Proofs.YteabnpahhkicaaaDoor
