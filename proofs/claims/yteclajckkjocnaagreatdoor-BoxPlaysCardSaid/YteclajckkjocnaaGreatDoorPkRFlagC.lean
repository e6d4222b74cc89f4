/- Plain laws for FlagsTell: some flags in order are the system's among them and behind them the others, sorted; a map of counts. No program in sight. The walk over the reference's Ordered: what it returns are the flags in order, each once. Condition: none. The walks over the law's texts and the reference's Holds: each returns what its plain function says. Condition: none. The walks over the reference's FlagSet, Holds, Without, PrintFlags and the law's texts and sameTexts: each returns what its plain function says. Condition: none. -/
import Derived.Maps.Views
import Derived.Maps.OwnSet
import Derived.Sort.KeysCollected
import Derived.Maps.RangeWalk
import Derived.Maps.OwnOps
import Derived.Sort.OwnSorted
import Derived.Deep.RegionHeld3
import Derived.Test.YteclajckkjocnaaGreatDoorPkPFlags
import Derived.Test.YteclajckkjocnaaGreatDoorPkContS
import Derived.Test.YteclajckkjocnaaGreatDoorPkFlagF
import Derived.Test.YteclajckkjocnaaGreatDoorPkPFlags2
import Derived.Test.YteclajckkjocnaaGreatDoorPkFlagG
import Derived.Test.YteclajckkjocnaaGreatDoorPkRFlagA
namespace Go.Proofs.YteclajckkjocnaaGreatDoor
open Go.Sort Go.Maps
set_option linter.unusedSimpArgs false
theorem cb_lt : ∀ a b : List UInt8, Lib.compareBytes a b < 0 → a < b
  | [], [], h => by simp [Lib.compareBytes] at h
  | [], _ :: _, _ => List.nil_lt_cons _ _
  | _ :: _, [], h => by simp [Lib.compareBytes] at h
  | x :: a, y :: b, h => by
    unfold Lib.compareBytes at h
    rw [List.cons_lt_cons_iff]
    by_cases h1 : x < y
    · exact Or.inl h1
    · by_cases h2 : y < x
      · rw [if_neg h1, if_pos h2] at h; omega
      · rw [if_neg h1, if_neg h2] at h
        exact Or.inr ⟨UInt8.le_antisymm (UInt8.not_lt.1 h2) (UInt8.not_lt.1 h1), cb_lt a b h⟩
theorem cb_of_le {a b : List UInt8} (h : a ≤ b) (hne : a ≠ b) : Lib.compareBytes a b < 0 := by
  rcases Int.lt_trichotomy (Lib.compareBytes a b) 0 with h1 | h1 | h1
  · exact h1
  · exact absurd (cb_zero a b h1) hne
  · have h2 : Lib.compareBytes b a < 0 := by rw [cb_swap]; omega
    exact absurd (cb_lt b a h2) (List.not_lt.2 h)
theorem sys_strict : Strict sysL := by unfold Strict; decide +kernel
theorem rank_sys {x : List UInt8} (h : x ∈ sysL) : rankF x < 5 := List.idxOf_lt_length_of_mem h
theorem rank_not {x : List UInt8} (h : x ∉ sysL) : rankF x = 5 := List.idxOf_eq_length h
/-- the system's flags among some, and behind them the others, sorted, are those in order -/
theorem order_sort {l ss : List (List UInt8)} (hn : ss.Nodup) (hm : ∀ x, x ∈ ss ↔ x ∈ l ∧ x ∉ sysL) : sysL.filter (fun t => decide (t ∈ l)) ++ ss.mergeSort (fun x y => decide (x ≤ y)) = canonF l := by
  have hp := List.mergeSort_perm ss (fun x y => decide (x ≤ y))
  apply canon_of
  · refine List.pairwise_append.2 ⟨List.Pairwise.filter _ sys_strict, ?_, ?_⟩
    · have h1 : (ss.mergeSort (fun x y => decide (x ≤ y))).Pairwise fun a b => decide (a ≤ b) = true := List.pairwise_mergeSort (fun a b c h1 h2 => by simp only [decide_eq_true_eq] at *; exact List.le_trans h1 h2) (fun a b => by simp only [Bool.or_eq_true, decide_eq_true_eq]; exact List.le_total a b) ss
      have h2 : (ss.mergeSort (fun x y => decide (x ≤ y))).Nodup := hp.nodup_iff.2 hn
      refine (h1.and h2).imp_of_mem fun {a b} ha hb h => ?_
      have ra := rank_not ((hm a).1 (hp.mem_iff.1 ha)).2
      have rb := rank_not ((hm b).1 (hp.mem_iff.1 hb)).2
      unfold ltF cmpF
      rw [ra, rb, if_pos rfl, decide_eq_true_eq]
      exact cb_of_le (by simpa using h.1) h.2
    · intro a ha b hb
      have ra := rank_sys (List.mem_filter.1 ha).1
      have rb := rank_not ((hm b).1 (hp.mem_iff.1 hb)).2
      unfold ltF cmpF
      rw [rb, if_neg (by omega), decide_eq_true_eq]
      omega
  · intro x
    rw [List.mem_append, List.mem_filter, hp.mem_iff, hm x, decide_eq_true_eq]
    by_cases h : x ∈ sysL <;> simp [h]
/-- a map's counts -/
def DI (D : DataW Unit) (f : List UInt8 → Nat) : Prop := ∀ x, D.atKey (.string x) (.lit (.int .i64 0)) = .lit (.int .i64 (f x : Int)) ∧ has D (.string x) = decide (0 < f x)
theorem DI.empty : DI (.map []) (fun _ => 0) := fun _ => ⟨rfl, rfl⟩
theorem key_str (x : List UInt8) : WideAt.IsKeyLit (.string x) := trivial
theorem str_ne {x s : List UInt8} (h : x ≠ s) : Lit.string x ≠ Lit.string s := fun e => h (by injection e)
theorem DI.put {D : DataW Unit} {f : List UInt8 → Nat} (h : DI D f) (hD : IsMap D) (s : List UInt8) {c : Int} (hc : c = (f s : Int) + 1) : DI (D.put (.string s) (.lit (.int .i64 c))) (fun x => if x = s then f s + 1 else f x) := by
  subst hc
  intro x
  show _ ∧ has _ _ = decide (0 < if x = s then f s + 1 else f x)
  by_cases hx : x = s
  · subst hx
    rw [if_pos rfl, atKey_put_same hD (key_str x), has_put_same hD (key_str x)]
    exact ⟨by simp, by simp⟩
  · rw [if_neg hx, atKey_put_other (str_ne hx), has_put_other (str_ne hx)]
    simpa [hx] using h x
theorem DI.del {D : DataW Unit} {f : List UInt8 → Nat} (h : DI D f) (s : List UInt8) : DI (D.del (.string s)) (fun x => if x = s then 0 else f x) := by
  intro x
  by_cases hx : x = s
  · subst hx
    rw [atKey_del_same, has_del_same]
    simp
  · rw [atKey_del_other (str_ne hx), has_del_other (str_ne hx)]
    simpa [hx] using h x
theorem DI.congr {D : DataW Unit} {f g : List UInt8 → Nat} (h : DI D f) (e : ∀ x, f x = g x) : DI D g := fun x => by rw [← e x]; exact h x
theorem DI.at {D : DataW Unit} {f : List UInt8 → Nat} (h : DI D f) {s : List UInt8} {c : Int} (hc : D.atKey (.string s) (.lit (.int .i64 0)) = .lit (.int .i64 c)) : c = (f s : Int) := by
  rw [(h s).1] at hc
  injection hc with hc
  injection hc with _ hc
  exact hc.symm
end Go.Proofs.YteclajckkjocnaaGreatDoor
namespace Go.Proofs.YteclajckkjocnaaGreatDoor
open Go.RowKit Go.Shelf Go.Sort Go.Maps
set_option linter.unusedSimpArgs false
theorem law9 : Keyed Tryz.prog 9 := string_keyed Tryz.underlying9
theorem zero_int (w : World) : (zeroValue 3).run Tryz.prog w = .ok (.int .i64 0) w := by kernel_rfl
theorem key_of {s : List UInt8} (h : s.length ≤ 1000000) : keyOf Tryz.prog 9 (.string ⟨s.toArray⟩) = some (.string s) := by
  have := WideMaps.keyOf_string_mk (P := Tryz.prog) Tryz.underlying9 (s := ⟨s.toArray⟩) (by rw [text_size]; unfold maxLen; omega)
  simpa using this
theorem count_step {l : List (List UInt8)} {k : Nat} {s : List UInt8} (hs : l[k]? = some s) (x : List UInt8) : (if x = s then (l.take k).count s + 1 else (l.take k).count x) = (l.take (k + 1)).count x := by
  rw [List.take_add_one, hs, List.count_append]
  by_cases h : x = s
  · subst h; simp
  · have h2 : (s == x) = false := by rw [beq_eq_false_iff_ne]; exact fun e => h e.symm
    simp [h, List.count_cons, h2]
theorem sys_fresh {k : Nat} {t : List UInt8} (h : sysL[k]? = some t) : t ∉ sysL.take k := by
  match k, h with
  | 0, h => cases h; decide
  | 1, h => cases h; decide
  | 2, h => cases h; decide
  | 3, h => cases h; decide
  | 4, h => cases h; decide
  | k + 5, h => simp [sysL] at h
theorem drop_step {l : List (List UInt8)} {k : Nat} {t : List UInt8} (h : sysL.take (k + 1) = sysL.take k ++ [t]) (x : List UInt8) : (if x = t then 0 else if x ∈ sysL.take k then 0 else l.count x) = if x ∈ sysL.take (k + 1) then 0 else l.count x := by
  rw [h]
  by_cases h1 : x = t <;> by_cases h2 : x ∈ sysL.take k <;> simp [h1, h2]
theorem map_ne {W : World} {B M n : Nat} {e : TypeId} {v : Value} {xs : List Value} (h : W.ownsRow (B + 1) e 1 v n xs) (hM : M = B := by rfl) : some M ≠ v.ownBlock := by
  subst hM
  rcases h.2 with ⟨rfl, _⟩ | ⟨g, cap, cur, rfl, hg, _⟩
  · simp [Value.ownBlock]
  · simp only [Value.ownBlock]; intro e; injection e with e; omega
theorem map_not_cells {P : Program} {W : World} {k : TypeId} {R : Value → Option (DataW Unit × List MemPlace)} {M n j : Nat} {D : DataW Unit} {o : Obj} {e : TypeId} (h : W.ownsMap P k R M n D) (hj : W.heap[j]? = some o) (hc : ∃ c fz, o = .cells c e fz) : some j ≠ some M := by
  intro e
  injection e with e
  subst e
  obtain ⟨c, fz, rfl⟩ := hc
  obtain ⟨es, clock, hb, _⟩ := h
  rw [hb] at hj
  cases hj
theorem below_appB {B : Nat} {a w w' : World} {e : TypeId} {n : Nat} {xs : List Value} {v : Value} {o : Obj} (h : Below B a w) (hB : B + 1 ≤ w.heap.size) (hown : w.ownsRow (B + 1) e 1 v n xs) (hg : (w.alloc o).grownBy w' v.ownBlock) : Below B a w' :=
  (h.alloc (by omega) _).grown hg (by simp; omega) (fun k hk => by
    rcases hown.2 with ⟨rfl, _⟩ | ⟨g, cap, cur, rfl, hg', _⟩
    · simp [Value.ownBlock] at hk
    · simp [Value.ownBlock] at hk; omega)
theorem own_or (v : Value) : v.ownBlock = none ∨ v.ownBlock ≠ none := Decidable.em _
theorem blocks_ne {ov rv : Value} {r : Nat} (h1 : ∀ g, ov.ownBlock = some g → g < r) (h2 : ∀ g, rv.ownBlock = some g → r + 1 ≤ g) : ov.ownBlock = none ∨ ov.ownBlock ≠ rv.ownBlock := by
  cases h : ov.ownBlock with
  | none => exact Or.inl rfl
  | some g =>
    refine Or.inr fun e => ?_
    have := h1 g h
    have := h2 g e.symm
    omega
set_option maxRecDepth 100000 in
set_option maxHeartbeats 8000000 in
theorem ordered_any (v : Value) (l : List (List UInt8)) (w : World) (hv : SRow w v l) (hl : l.length ≤ 100000) (ht : ∀ t ∈ l, t.length ≤ 1000000) :
    Calls Tryz.prog 46 #[v] w fun e w' => ∃ r, e = .returned r ∧ TRow w' r (canonF l) ∧ Below w.heap.size w w' := by
  obtain ⟨ao, cap, rfl, hcap, ⟨hcm, _⟩, hcell⟩ := hv
  have HC := Lib.hid hcell
  have HT := Lib.hid ht
  have hmm := @run_makeMap Tryz.prog
  clear hcell ht
  go_enter Tryz.func46, Tryz.ntmps46
  go_wp2_with fail
  go_loopg [13] l.length (fun g13 s13 wr => ∃ (k : Nat) (D : DataW Unit), k + g13 = l.length ∧ s13 = .int .i64 (k : Int) ∧ wr.ownsMap Tryz.prog 9 (plainElem Tryz.prog 3) w.heap.size k D ∧ Hid (DI D fun x => (l.take k).count x) ∧ Below w.heap.size w wr)
  case atStart => exact ⟨0, .map [], by omega, rfl, World.ownsMap_made _ _ _ _, by show DI _ _; simpa using DI.empty, (Below.refl _ _).alloc (Nat.le_refl _) _⟩
  case round =>
    obtain ⟨k, D, hk, rfl, hown, HD, hbr⟩ := hrel
    by_cases hlt : k < l.length
    · obtain ⟨g', rfl⟩ : ∃ g', gk = g' + 1 := ⟨gk - 1, by omega⟩
      obtain ⟨s, hs⟩ : ∃ s, l[k]? = some s := ⟨l[k], List.getElem?_eq_getElem hlt⟩
      obtain ⟨b, off, rfl, hb, hc⟩ := HC.out k s hs
      have hd := (hbr.cell (p := ⟨b, off + k, none⟩) hb).trans hc
      have hkey := key_of (HT.out s (List.mem_of_getElem? hs))
      have hcnt : (l.take k).count s ≤ k := Nat.le_trans List.count_le_length (by rw [List.length_take]; omega)
      have HS := Lib.hid hs
      clear hc hs
      go_wp2_with (first
        | (at_lookup; refine wpList_lookup_own_int _ rfl _ _ 118 rfl 9 3 .i64 law9 Tryz.underlying118 Tryz.underlying3 (zero_int _) w.heap.size k _ rfl hown _ _ rfl hkey ?_; intro c hat hwc; have hcc := HD.out.at hat; have hc0 : 0 ≤ c := by omega
           have hc1 : c ≤ 100000 := by omega
           have hcw : wrap64 (c + 1) = c + 1 := IntWalk.wrap64_in _ (by omega)
           have hcx := Lib.hid hcc
           clear hat hwc hcc)
        | (at_mapUpdate; refine wpList_mapUpdate_own _ rfl _ _ _ 118 rfl 9 3 law9 Tryz.underlying118 _ w.heap.size k _ rfl hown (by unfold maxLen; omega) _ _ _ rfl rfl hkey _ [] (plainElem_int Tryz.underlying3 (by first | exact wrap64_wf _ | (rw [← hcw]; exact wrap64_wf _))) ?_; intro w1 hown1 hgrow1))
      go_roundg g'
      case measure => omega
      case rel => exact ⟨k + 1, _, by omega, by go_num, hown1, ((HD.out.put hown.isMap s (by rw [← hcx.out])).congr (count_step HS.out) : DI _ _), hbr.grown hgrow1 hbr.size (fun j hj => by cases hj; exact Nat.le_refl _)⟩
    · obtain rfl : k = l.length := by omega
      rw [List.take_length] at HD
      go_wp2_with fail
      have hown0 := hown
      have hMs := hown.lt
      go_loopg [22, 3] 5 (fun g22 s22 s3 wr => ∃ (k : Nat) (D : DataW Unit) (ov : Value) (out : List (List UInt8)), k + g22 = 5 ∧ s22 = .int .i64 (k : Int) ∧ ov = s3 ∧ out.length ≤ k ∧ wr.ownsMap Tryz.prog 9 (plainElem Tryz.prog 3) w.heap.size l.length D ∧ Hid (DI D fun x => if x ∈ sysL.take k then 0 else l.count x) ∧ wr.ownsRow (w.heap.size + 1) 9 1 ov out.length (out.map encStr) ∧ Hid (out = (sysL.take k).filter fun t => decide (t ∈ l)) ∧ w.heap.size + 1 ≤ wr.heap.size ∧ Below w.heap.size w wr)
      case atStart => exact ⟨0, D, _, [], by omega, rfl, rfl, Nat.le_refl _, hown, by show DI _ _; simpa using HD.out, World.ownsRow_nil _ _ _ _, rfl, by omega, hbr⟩
      case round =>
        clear hown hbr HD D hown0 hMs hk
        obtain ⟨k, D, ov, out, hk, rfl, rfl, hol, hown, HD, hrow, HO, hsz, hbr⟩ := hrel
        by_cases hlt5 : k < 5
        · obtain ⟨g', rfl⟩ : ∃ g', gk = g' + 1 := ⟨gk - 1, by omega⟩
          obtain ⟨t, htk⟩ : ∃ t, sysL[k]? = some t := ⟨sysL[k]'(by simpa [sysL] using hlt5), List.getElem?_eq_getElem _⟩
          have htn : t ∉ sysL.take k := sys_fresh htk
          have htl : t.length ≤ 1000000 := by
            have : sysL.all (fun t => decide (t.length ≤ 1000000)) = true := by decide
            simpa using List.all_eq_true.1 this t (List.mem_of_getElem? htk)
          have hkey := key_of htl
          have c5 := fun W => five_any k t W htk
          have htake : sysL.take (k + 1) = sysL.take k ++ [t] := by rw [List.take_add_one, htk]; rfl
          have hkz : (k : Int) < 5 := by omega
          by_cases hin : t ∈ l
          · have hcp : 0 < l.count t := List.count_pos_iff.2 hin
            have HO2 : Hid (out ++ [t] = (sysL.take (k + 1)).filter fun t => decide (t ∈ l)) := by
              show _ = _
              rw [htake, List.filter_append, ← HO.out]; simp [hin]
            have HT2 := Lib.hid htake
            have HTN := Lib.hid htn
            clear htake htn HO hin htk
            go_wp2_with (first
              | (go_at_call 57; with_reducible refine (c5 _).mono ?_; rintro e w1 ⟨rfl, hw⟩; subst hw)
              | (at_lookup; refine wpList_lookup_own_int _ rfl _ _ 118 rfl 9 3 .i64 law9 Tryz.underlying118 Tryz.underlying3 (zero_int _) w.heap.size l.length _ rfl hown _ _ rfl hkey ?_; intro c hat hwc; have hcc := HD.out.at hat; rw [if_neg HTN.out] at hcc; have hc0 : 0 < c := by omega
                 clear hat hwc hcc)
              | (at_builtin; go_must (refine wpList_app1 rfl _ _ 35 rfl 9 Tryz.underlying35 str_info rfl (w.heap.size + 1) _ _ _ _ rfl hrow _ rfl rfl ?hn (by decide) hsz ?_)))
            case hn => omega
            intro v' w2 o2 g2 hv2
            have hown2 := (hown.alloc (.cells #[.string ⟨t.toArray⟩] 9)).kept g2 (map_ne hrow)
            have hbr2 := below_appB hbr hsz hrow g2
            have hsz2 : w.heap.size + 1 ≤ w2.heap.size := by have := g2.size; rw [alloc_size] at this; omega
            clear hown hrow
            go_wp2_with (first
              | (go_at_call 57; with_reducible refine (c5 _).mono ?_; rintro e w1 ⟨rfl, hw⟩; subst hw)
              | (at_delete; refine wpList_delete_own _ rfl _ _ 118 9 rfl 3 law9 Tryz.underlying118 _ w.heap.size l.length _ rfl hown2 _ _ rfl hkey ?_; intro w3 hown3 hturn3))
            go_roundg g'
            case measure => omega
            case rel =>
              refine ⟨k + 1, _, _, out ++ [t], by omega, by go_num, rfl, by simp; omega, hown3, ((HD.out.del t).congr (drop_step HT2.out) : DI _ _), owns_same (by rw [List.length_append, List.map_append]; exact o2) (fun j o hj hc => (hturn3.grown.block j (Array.getElem?_eq_some_iff.1 hj).1 (map_not_cells hown2 hj hc)).trans hj), HO2.out, by have := hturn3.grown.size; omega, hbr2.grown hturn3.grown (by omega) (fun j hj => by cases hj; exact Nat.le_refl _)⟩
          · have hcz : l.count t = 0 := List.count_eq_zero.2 hin
            have HO2 : Hid (out = (sysL.take (k + 1)).filter fun t => decide (t ∈ l)) := by
              show _ = _
              rw [htake, List.filter_append, ← HO.out]; simp [hin]
            have HD2 : Hid (DI D fun x => if x ∈ sysL.take (k + 1) then 0 else l.count x) := HD.out.congr (fun x => by
              rw [htake]
              by_cases h1 : x ∈ sysL.take k
              · simp [h1]
              · by_cases h2 : x = t
                · subst h2; simp [h1, hcz]
                · simp [h1, h2])
            have HTN := Lib.hid htn
            clear htake htn HO hin htk
            go_wp2_with (first
              | (go_at_call 57; with_reducible refine (c5 _).mono ?_; rintro e w1 ⟨rfl, hw⟩; subst hw)
              | (at_lookup; refine wpList_lookup_own_int _ rfl _ _ 118 rfl 9 3 .i64 law9 Tryz.underlying118 Tryz.underlying3 (zero_int _) w.heap.size l.length _ rfl hown _ _ rfl hkey ?_; intro c hat hwc; have hcc := HD.out.at hat; rw [if_neg HTN.out] at hcc; have hc0 : ¬ (0 < c) := by omega
                 clear hat hwc hcc))
            go_roundg g'
            case measure => omega
            case rel => exact ⟨k + 1, D, _, out, by omega, by go_num, rfl, by omega, hown, HD2.out, hrow, HO2.out, hsz, hbr⟩
        · obtain rfl : k = 5 := by omega
          have hO5 : out = sysL.filter fun t => decide (t ∈ l) := HO.out
          have HD5 : Hid (DI D fun x => if x ∈ sysL then 0 else l.count x) := HD.out
          have HO5 := Lib.hid hO5
          have hol5 : out.length ≤ 5 := hol
          clear HO hO5 HD hk hol hlt5
          obtain ⟨r, hr⟩ : ∃ r, wr.heap.size = r := ⟨_, rfl⟩
          have hOB : ∀ g, ov.ownBlock = some g → g < r := fun g hg => by rw [← hr]; exact (hrow.lt g hg).2
          have hMr : w.heap.size < r := by omega
          have hsD := hown.size_le
          go_wp2_with (at_range; refine wpList_range_own _ rfl _ 118 rfl 9 3 law9 Tryz.underlying118 _ w.heap.size l.length _ rfl hown ?_; rw [hr]; intro w0 hrg0 hg0 hs0)
          go_frame
          have hrow0 := hrow.kept hg0 (own_or ov)
          have hb0 := hbr.grown hg0 hbr.size (fun j hj => by cases hj)
          have hC0 := Collected.start D
          have hHas : Hid (∀ x, has D (.string x) = decide (x ∈ l ∧ x ∉ sysL)) := fun x => by
            rw [(HD5.out x).2]
            by_cases h1 : x ∈ sysL
            · simp [h1]
            · by_cases h2 : x ∈ l
              · have := List.count_pos_iff.2 h2; simp [h1, h2]
              · have := List.count_eq_zero.2 h2; simp [h1, h2]
          clear HD5 hown hrow hg0 hbr
          go_loopg [8] (Maps.size D) (fun g8 s8 wx => ∃ (left : Lit → Bool) (ss : List (List UInt8)) (rv : Value), rv = s8 ∧ wx.ranges Tryz.prog 9 (plainElem Tryz.prog 3) w.heap.size r l.length D left g8 ∧ Hid (Collected D left ss) ∧ ss.length + g8 ≤ l.length ∧ wx.ownsRow (r + 1) 9 1 rv ss.length (ss.map encStr) ∧ wx.ownsRow (w.heap.size + 1) 9 1 ov out.length (out.map encStr) ∧ r + 1 ≤ wx.heap.size ∧ Below w.heap.size w wx)
          case atStart => exact ⟨_, [], _, rfl, hrg0, hC0, by simpa using hsD, World.ownsRow_nil _ _ _ _, hrow0, by omega, hb0⟩
          case round =>
            clear hrg0 hrow0 hb0 hC0 hs0 w0
            obtain ⟨left, ss, rv, rfl, hrg, HCo, hcs, hrowR, hrowO, hszx, hbx⟩ := hrel
            go_wp2_with (at_next; refine wpList_next_ranges _ rfl _ rfl 9 law9 (plainElem Tryz.prog 3) encStr (Value.int .i64) (fun key kl hk => by obtain ⟨x, hx, _⟩ := Maps.keyOf_str Tryz.underlying9 hk; exact ⟨x, hx⟩) (fun v y hv => by obtain ⟨c, rfl, _⟩ := plainElem_int_inv Tryz.underlying3 hv; exact ⟨c, rfl⟩) w.heap.size r l.length _ _ _ rfl hrg ?_ ?_)
            · intro hc0 hl0
              have hmem : ∀ x, x ∈ ss ↔ x ∈ l ∧ x ∉ sysL := fun x => by
                rw [HCo.out.2 x, hHas.out x, hl0]; simp
              have hcan : Hid (out ++ ss.mergeSort (fun x y => decide (x ≤ y)) = canonF l) := by
                show _ = _
                rw [HO5.out]; exact order_sort HCo.out.1 hmem
              clear hmem hl0 HCo
              obtain ⟨T, hT⟩ : ∃ T, ss.mergeSort (fun x y => decide (x ≤ y)) = T := ⟨_, rfl⟩
              rw [hT] at hcan
              have hTl : T.length = ss.length := by rw [← hT, List.length_mergeSort]
              rcases hrowR.2 with ⟨rfl, h0⟩ | ⟨g, cap2, cur, rfl, hbase, hb, h1, h2, h3, h4⟩
              · obtain rfl : T = [] := List.eq_nil_of_length_eq_zero (by omega)
                have cS := fun W => Tryz.sort_Strings_none none 0 W
                clear hrowR hT hTl
                go_wp2_with (first
                  | (go_at_call 72; with_reducible refine (cS _).mono ?_; rintro e w1 ⟨rfl, hw⟩; rw [hw]; clear hw)
                  | (at_builtin; go_must (refine wpList_appS rfl _ _ 35 rfl 9 Tryz.underlying35 str_info rfl (w.heap.size + 1) ov out _ rfl hrowO none [] 0 rfl (fun _ => rfl) (fun j t hj => by simp at hj) ?hn (by decide) ?hb ?_)))
                case hn => simp only [List.length_nil]; omega
                case hb => omega
                intro v' w2 o2 g2
                go_wp2_with fail
                go_ret
                exact ⟨_, rfl, by rw [← hcan.out, List.append_nil]; exact ⟨srow_owns o2, stag_owns o2⟩, hbx.grown g2 hbx.size (fun j hj => by have := (hrowO.lt j hj).1; omega)⟩
              · have hH : Holds encStr wr g 0 ss.toArray := holds_of_block hb (by simpa using h4)
                have hgl : g < wr.heap.size := (Array.getElem?_eq_some_iff.1 hb).1
                have cS : Calls Tryz.prog 72 #[.slice (some ⟨g, 0, none⟩) T.length cap2] wr fun e w' => e = .returned (.tuple #[]) ∧ w'.ownsRow (r + 1) 9 1 (.slice (some ⟨g, 0, none⟩) T.length cap2) T.length (T.map encStr) ∧ wr.grownBy w' (some g) := by
                  rw [hTl]
                  refine (Tryz.sort_Strings g 0 cap2 ss wr hH hgl (by omega)).mono ?_
                  rintro e w' ⟨rfl, nn, os, rfl⟩
                  rw [hT]
                  exact ⟨rfl, ownsRow_sorted hTl hbase hb h1 h2 h3, grownBy_sorted _⟩
                have hTn : T.length ≤ l.length := by omega
                rw [← hTl]
                have hgO := blocks_ne (rv := .slice (some ⟨g, 0, none⟩) T.length cap2) hOB (fun g' hg' => by cases hg'; exact hbase)
                clear hrowR hT hH hb h3 h4 hgl hrg hTl
                go_wp2_with (first
                  | (go_at_call 72; go_loud ((with_reducible refine cS.mono ?_); rintro e w1 ⟨rfl, o1, g1⟩; have hrowO1 := hrowO.kept g1 hgO; have hb1 := hbx.grown g1 hbx.size (fun j hj => by cases hj; omega); have hsz1 := g1.size))
                  | (at_builtin; go_must (refine wpList_appS rfl _ _ 35 rfl 9 Tryz.underlying35 str_info rfl (w.heap.size + 1) ov out _ rfl hrowO1 (some ⟨g, 0, none⟩) T cap2 rfl (fun h => by cases h) (fun j t hj => ⟨g, 0, rfl, (o1.lt _ rfl).2, by rw [Nat.zero_add]; exact owns_cell o1 (by rw [List.getElem?_map, hj]; rfl)⟩) ?hn (by decide) ?hb ?_)))
                case hn => omega
                case hb => omega
                intro v' w2 o2 g2
                go_wp2_with fail
                go_ret
                have o3 : w2.ownsRow (w.heap.size + 1) 9 1 v' (out ++ T).length ((out ++ T).map encStr) := by rw [List.length_append, List.map_append]; exact o2
                exact ⟨_, rfl, by rw [← hcan.out]; exact ⟨srow_owns o3, stag_owns o3⟩, hb1.grown g2 hb1.size (fun j hj => by have := (hrowO1.lt j hj).1; omega)⟩
            · intro x c kl yd yp w2 cnt2 hkey hlk hv hat hrg2 hlt hg2 hs2 hen
              obtain ⟨x', ex, rfl, hxl⟩ := Maps.keyOf_str Tryz.underlying9 hkey
              obtain rfl : x = x' := encStr_inj ex
              have hrowR2 := hrowR.kept hg2 (Or.inr (row_ne_iter hrowR hrg).symm)
              have hrowO2 := hrowO.kept hg2 (Or.inr (row_ne_iter hrowO hrg).symm)
              have hsz2 : r + 1 ≤ w2.heap.size := by omega
              have hC2 := Lib.hid (HCo.out.step hlk hat)
              have hb2 := hbx.grown hg2 hbx.size (fun j hj => by cases hj; omega)
              clear hs2 hkey hlk hv hat hrowR hrowO hg2 ex HCo hbx
              go_wp2_with (at_builtin; go_must (refine wpList_app1 rfl _ _ 35 rfl 9 Tryz.underlying35 str_info rfl (r + 1) _ _ _ _ rfl hrowR2 _ rfl rfl ?hn (by decide) hsz2 ?_))
              case hn => omega
              intro v' w3 o3 g3 hv3
              have hrg3 := (hrg2.alloc (.cells #[encStr x] 9)).kept g3 (row_ne_low hrowR2 (by omega)) (row_ne_low hrowR2 (by omega))
              have hrowO3 := (hrowO2.alloc (.cells #[encStr x] 9)).kept g3 (blocks_ne hOB (fun g hg => (hrowR2.lt g hg).1))
              have hsz3 : r + 1 ≤ w3.heap.size := by have := g3.size; rw [alloc_size] at this; omega
              have hb3 := (hb2.alloc (by omega) (.cells #[encStr x] 9)).grown g3 (by rw [alloc_size]; omega) (fun j hj => by have := (hrowR2.lt j hj).1; omega)
              go_wp2_with fail
              go_roundg cnt2
              case measure => exact hlt
              case rel => exact ⟨_, ss ++ [x], _, rfl, hrg3, hC2.out, by simp; omega, by rw [List.length_append, List.map_append]; exact o3, hrowO3, hsz3, hb3⟩
end Go.Proofs.YteclajckkjocnaaGreatDoor
namespace Go.Proofs.YteclajckkjocnaaGreatDoor
open Go.RowKit Go.Shelf Go.Sort
set_option linter.unusedSimpArgs false
set_option maxRecDepth 100000 in
set_option maxHeartbeats 4000000 in
theorem ltexts_any (v : Value) (l : List (List UInt8)) (w : World) (hv : SRow w v l) (ht : ∀ t ∈ l, t.length ≤ 9223372036854775807) :
    Calls Tryz.prog 9 #[v] w fun e w' => e = .returned (.bool (textsF l)) ∧ Below w.heap.size w w' := by
  obtain ⟨ao, cap, rfl, hcap, ⟨hcm, _⟩, hcell⟩ := hv
  have HC := Lib.hid hcell
  have HT := Lib.hid ht
  obtain ⟨R, hR⟩ : ∃ R, textsF l = R := ⟨_, rfl⟩
  rw [hR]
  clear hcell ht
  by_cases h40 : (40 : Int) < (l.length : Int)
  · have hX : R = false := by
      rw [← hR]; unfold textsF
      rw [decide_eq_false (by omega)]; rfl
    subst hX
    clear hR
    go_enter Tryz.func9, Tryz.ntmps9
    go_wp2_with fail
    go_ret
    exact ⟨rfl, Below.refl _ _⟩
  · have HR : Hid (R = (l.drop 0).all fun t => decide (t.length ≤ 100)) := by
      show _ = _
      rw [← hR]; unfold textsF
      rw [decide_eq_true (by omega)]; rfl
    clear hR
    go_enter Tryz.func9, Tryz.ntmps9
    go_wp2_with fail
    go_loopg [3] l.length (fun g3 s3 wr => ∃ k : Nat, k + g3 = l.length ∧ s3 = .int .i64 (k : Int) ∧ w = wr ∧ Hid (R = (l.drop k).all fun t => decide (t.length ≤ 100)))
    case atStart => exact ⟨0, by omega, rfl, rfl, HR.out⟩
    case round =>
      obtain ⟨k, hk, rfl, hw, HK⟩ := hrel
      subst hw
      clear HR
      by_cases hlt : k < l.length
      · obtain ⟨g', rfl⟩ : ∃ g', gk = g' + 1 := ⟨gk - 1, by omega⟩
        obtain ⟨s, hs⟩ : ∃ s, l[k]? = some s := ⟨l[k], List.getElem?_eq_getElem hlt⟩
        obtain ⟨b, off, rfl, hb, hc⟩ := HC.out k s hs
        have hsl := HT.out s (List.mem_of_getElem? hs)
        have ts := text_size s
        have hdr : l.drop k = s :: l.drop (k + 1) := by
          rw [List.drop_eq_getElem_cons hlt]
          rw [List.getElem?_eq_getElem hlt] at hs
          rw [Option.some.inj hs]
        have hK := HK.out
        rw [hdr, List.all_cons] at hK
        by_cases h100 : (100 : Int) < (s.length : Int)
        · have hX : R = false := by rw [hK, decide_eq_false (by omega)]; rfl
          subst hX
          clear hK HK hdr hs
          go_wp2_with fail
          go_ret
          exact ⟨rfl, Below.refl _ _⟩
        · have HK2 : Hid (R = (l.drop (k + 1)).all fun t => decide (t.length ≤ 100)) := by show _ = _; rw [hK, decide_eq_true (by omega)]; rfl
          clear hK HK hdr hs
          go_wp2_with fail
          go_roundg g'
          case measure => omega
          case rel => exact ⟨k + 1, by omega, by go_num, rfl, HK2.out⟩
      · have hX : R = true := by rw [HK.out, List.drop_eq_nil_of_le (by omega)]; rfl
        subst hX
        clear HK
        go_wp2_with fail
        go_ret
        exact ⟨rfl, Below.refl _ _⟩
set_option maxRecDepth 100000 in
set_option maxHeartbeats 4000000 in
theorem rholds_any (v : Value) (l : List (List UInt8)) (s : List UInt8) (w : World) (hv : SRow w v l) (hl : l.length ≤ 1000000) :
    Calls Tryz.prog 56 #[v, .string ⟨s.toArray⟩] w fun e w' => e = .returned (.bool (decide (s ∈ l))) ∧ w = w' := by
  obtain ⟨ao, cap, rfl, hcap, ⟨hcm, _⟩, hcell⟩ := hv
  have HC := Lib.hid hcell
  obtain ⟨R, hR⟩ : ∃ R, decide (s ∈ l) = R := ⟨_, rfl⟩
  rw [hR]
  have HR : Hid (R = decide (s ∈ l.drop 0)) := by show _ = _; rw [← hR]; rfl
  clear hcell hR
  go_enter Tryz.func56, Tryz.ntmps56
  go_wp2_with fail
  go_loopg [9] l.length (fun g9 s9 wr => ∃ k : Nat, k + g9 = l.length ∧ s9 = .int .i64 (k : Int) ∧ w = wr ∧ Hid (R = decide (s ∈ l.drop k)))
  case atStart => exact ⟨0, by omega, rfl, rfl, HR.out⟩
  case round =>
    obtain ⟨k, hk, rfl, hw, HK⟩ := hrel
    subst hw
    clear HR
    by_cases hlt : k < l.length
    · obtain ⟨g', rfl⟩ : ∃ g', gk = g' + 1 := ⟨gk - 1, by omega⟩
      obtain ⟨t, ht⟩ : ∃ t, l[k]? = some t := ⟨l[k], List.getElem?_eq_getElem hlt⟩
      obtain ⟨b, off, rfl, hb, hc⟩ := HC.out k t ht
      have hdr : l.drop k = t :: l.drop (k + 1) := by
        rw [List.drop_eq_getElem_cons hlt]
        rw [List.getElem?_eq_getElem hlt] at ht
        rw [Option.some.inj ht]
      have hK := HK.out
      rw [hdr] at hK
      by_cases he : t = s
      · subst he
        have hX : R = true := by rw [hK]; simp
        subst hX
        clear hK HK hdr ht
        go_wp2_with fail
        go_ret
        exact ⟨rfl, rfl⟩
      · have HK2 : Hid (R = decide (s ∈ l.drop (k + 1))) := by
          show _ = _
          rw [hK]
          have : ¬ s = t := fun e => he e.symm
          simp [this]
        have n5 : (t == s) = false := by rw [beq_eq_false_iff_ne]; exact he
        clear hK HK hdr ht
        go_wp2_with fail
        go_roundg g'
        case measure => omega
        case rel => exact ⟨k + 1, by omega, by go_num, rfl, HK2.out⟩
    · have hX : R = false := by rw [HK.out, List.drop_eq_nil_of_le (by omega)]; simp
      subst hX
      clear HK
      go_wp2_with fail
      go_ret
      exact ⟨rfl, rfl⟩
end Go.Proofs.YteclajckkjocnaaGreatDoor
namespace Go.Proofs.YteclajckkjocnaaGreatDoor
open Go.RowKit Go.Shelf Go.Sort
set_option linter.unusedSimpArgs false
theorem name_bad {s : List UInt8} {n : Nat} (h : nameF s = .inl n) : 0 < n := by
  unfold nameF at h
  split at h
  · split at h
    · cases h
    · cases h; decide
  · split at h
    · cases h; decide
    · split at h
      · cases h; decide
      · cases h
/-- what FlagSet returns -/
def RSetRes (R : Nat ⊕ List (List UInt8)) (v : Value) (W : World) : Prop := match R with
  | .inl n => v = .tuple #[.slice none 0 0, .int .i64 (n : Int)]
  | .inr L => ∃ sv, v = .tuple #[sv, .int .i64 0] ∧ TRow W sv L
set_option maxRecDepth 100000 in
set_option maxHeartbeats 8000000 in
theorem rset_any (v : Value) (l : List (List UInt8)) (w : World) (hv : SRow w v l) (hl : Short l) :
    Calls Tryz.prog 18 #[v] w fun e w' => ∃ r, e = .returned r ∧ RSetRes (setF l) r w' ∧ Below w.heap.size w w' := by
  obtain ⟨ao, cap, rfl, hcap, _, hcell⟩ := hv
  obtain ⟨hll, htl⟩ := hl
  have HC := Lib.hid hcell
  have HT := Lib.hid htl
  obtain ⟨R, hR⟩ : ∃ R, setF l = R := ⟨_, rfl⟩
  rw [hR]
  have HR := Lib.hid hR
  clear hcell htl hR
  go_enter Tryz.func18, Tryz.ntmps18
  go_wp2_with fail
  go_loopg [4, 12] l.length (fun g4 s4 s12 wr => ∃ (k : Nat) (acc : List (List UInt8)) (ov : Value), k + g4 = l.length ∧ s12 = .int .i64 (k : Int) ∧ ov = s4 ∧ acc.length = k ∧ wr.ownsRow w.heap.size 9 1 ov acc.length (acc.map encStr) ∧ Below w.heap.size w wr ∧ (acc = [] → ov = .slice none 0 0) ∧ Hid (namesF l = joinN acc (namesF (l.drop k))))
  case atStart => exact ⟨0, [], _, by omega, rfl, rfl, rfl, World.ownsRow_nil _ _ _ _, Below.refl _ _, fun _ => rfl, by show _ = _; rw [List.drop_zero, join_nil]⟩
  case round =>
    obtain ⟨k, acc, ov, hk, rfl, rfl, hak, hown, hbr, hnil, HN⟩ := hrel
    by_cases hlt : k < l.length
    · obtain ⟨g', rfl⟩ : ∃ g', gk = g' + 1 := ⟨gk - 1, by omega⟩
      obtain ⟨s, hs⟩ : ∃ s, l[k]? = some s := ⟨l[k], List.getElem?_eq_getElem hlt⟩
      obtain ⟨b, off, rfl, hb, hc⟩ := HC.out k s hs
      have hd := (hbr.cell (p := ⟨b, off + k, none⟩) hb).trans hc
      have hsl := HT.out s (List.mem_of_getElem? hs)
      have hdr : l.drop k = s :: l.drop (k + 1) := by
        rw [List.drop_eq_getElem_cons hlt]
        rw [List.getElem?_eq_getElem hlt] at hs
        rw [Option.some.inj hs]
      have hN := HN.out
      rw [hdr] at hN
      have cN := rname_any s wr (by omega)
      cases hn : nameF s with
      | inl n =>
        rw [join_bad hn] at hN
        rw [hn] at cN
        have hX : R = .inl n := by rw [← HR.out, setF, hN]
        have HX := Lib.hid hX
        have hnz := name_bad hn
        have hnb : ((n : Int) == 0) = false := by rw [beq_eq_false_iff_ne]; omega
        have hnc : ¬ ((n : Int) = 0) := by omega
        have hnd : ¬ (n = 0) := by omega
        have cN2 : Calls Tryz.prog 45 #[.string ⟨s.toArray⟩] wr fun e w' => e = .returned (.tuple #[.string ⟨#[]⟩, .int .i64 (n : Int)]) ∧ Below wr.heap.size wr w' := cN
        clear hN hn hX hdr hs cN HN hc
        go_wp2_with (go_at_call 45; with_reducible refine cN2.mono ?_; rintro e w1 ⟨rfl, h⟩; have y := hbr.trans (h.mono hbr.size))
        go_ret2
        exact ⟨_, rfl, by rw [HX.out]; rfl, y⟩
      | inr t =>
        rw [join_ok hn] at hN
        rw [hn] at cN
        have HN2 : Hid (namesF l = joinN (acc ++ [t]) (namesF (l.drop (k + 1)))) := hN
        have cN2 : Calls Tryz.prog 45 #[.string ⟨s.toArray⟩] wr fun e w' => e = .returned (.tuple #[.string ⟨t.toArray⟩, .int .i64 0]) ∧ Below wr.heap.size wr w' := cN
        have HA := Lib.hid hak
        have hal : acc.length ≤ 100000 := by omega
        clear hN hn hdr hs cN HN hc hak hnil
        go_wp2_with (first
          | (go_at_call 45; with_reducible refine cN2.mono ?_; rintro e w1 ⟨rfl, h⟩; have y := hbr.trans (h.mono hbr.size); have o1 := owns_same hown (fun j o hj _ => below_same h hj))
          | (at_builtin; go_must (refine wpList_app1 rfl _ _ 35 rfl 9 Tryz.underlying35 str_info rfl w.heap.size _ _ _ _ rfl o1 _ rfl rfl ?hn (by decide) ?hb ?_)))
        case hn => omega
        case hb => exact y.size
        intro v' w2 o2 g2 hv2
        have y2 := below_app y y.size o1 g2
        have o3 : w2.ownsRow w.heap.size 9 1 v' (acc ++ [t]).length ((acc ++ [t]).map encStr) := by
          rw [List.length_append, List.map_append]; exact o2
        go_wp2_with fail
        go_roundg g'
        case measure => omega
        case rel => exact ⟨k + 1, acc ++ [t], _, by omega, by go_num, rfl, by rw [List.length_append, HA.out]; rfl, o3, y2, fun h => by simp at h, HN2.out⟩
    · have hd0 : l.drop k = [] := List.drop_eq_nil_of_le (by omega)
      have hN := HN.out
      rw [hd0] at hN
      have hN2 : namesF l = .inr acc := by rw [hN]; show joinN acc (.inr []) = _; simp [joinN]
      have hX : R = if 12 < (canonF acc).length then .inl 4 else .inr (canonF acc) := by rw [← HR.out, setF, hN2]
      have HX := Lib.hid hX
      have hacc : ∀ t ∈ acc, t.length ≤ 1000000 := fun t ht => by
        have := (names_ok hN2).2
        rw [this] at ht
        obtain ⟨u, hu, rfl⟩ := List.mem_map.1 ht
        have := name_len ((names_ok hN2).1 u hu)
        omega
      have cO := ordered_any ov acc wr (srow_owns hown) (by omega) hacc
      clear hN hN2 hX hd0 HN hacc
      by_cases h12 : 12 < (canonF acc).length
      · have h12z : (12 : Int) < ((canonF acc).length : Int) := by omega
        go_wp2_with (go_at_call 46; go_loud ((with_reducible refine cO.mono ?_); rintro e w1 ⟨r, rfl, hr, h⟩; have y := hbr.trans (h.mono hbr.size); have hr1 := Lib.hid hr; obtain ⟨ao1, cap1, rfl, _⟩ := hr.1; clear hr h))
        go_ret2
        exact ⟨_, rfl, by rw [HX.out, if_pos h12]; rfl, y⟩
      · have h12z : ¬((12 : Int) < ((canonF acc).length : Int)) := by omega
        go_wp2_with (go_at_call 46; go_loud ((with_reducible refine cO.mono ?_); rintro e w1 ⟨r, rfl, hr, h⟩; have y := hbr.trans (h.mono hbr.size); have hr1 := Lib.hid hr; obtain ⟨ao1, cap1, rfl, _⟩ := hr.1; clear hr h))
        go_ret2
        exact ⟨_, rfl, by rw [HX.out, if_neg h12]; exact ⟨_, rfl, hr1.out⟩, y⟩
set_option maxRecDepth 100000 in
set_option maxHeartbeats 4000000 in
theorem without_any (av bv : Value) (a b : List (List UInt8)) (w : World) (ha : SRow w av a) (hb : SRow w bv b) (hal : a.length ≤ 100000) (hbl : b.length ≤ 1000000) :
    Calls Tryz.prog 54 #[av, bv] w fun e w' => ∃ r, e = .returned r ∧ TRow w' r (notF a b) ∧ Below w.heap.size w w' := by
  have cH := fun s W (h : Below w.heap.size w W) => rholds_any bv b s W (hb.below h) hbl
  obtain ⟨ao, cap, rfl, hcap, ⟨hcm, _⟩, hcell⟩ := ha
  have HC := Lib.hid hcell
  clear hcell hb
  go_enter Tryz.func54, Tryz.ntmps54
  go_wp2_with fail
  go_loopg [5, 10] a.length (fun g5 s5 s10 wr => ∃ (k : Nat) (acc : List (List UInt8)) (ov : Value), k + g5 = a.length ∧ s10 = .int .i64 (k : Int) ∧ ov = s5 ∧ acc.length ≤ k ∧ wr.ownsRow w.heap.size 9 1 ov acc.length (acc.map encStr) ∧ Below w.heap.size w wr ∧ Hid (acc = notF (a.take k) b))
  case atStart => exact ⟨0, [], _, by omega, rfl, rfl, Nat.le_refl _, World.ownsRow_nil _ _ _ _, Below.refl _ _, rfl⟩
  case round =>
    obtain ⟨k, acc, ov, hk, rfl, rfl, hak, hown, hbr, HA⟩ := hrel
    by_cases hlt : k < a.length
    · obtain ⟨g', rfl⟩ : ∃ g', gk = g' + 1 := ⟨gk - 1, by omega⟩
      obtain ⟨s, hs⟩ : ∃ s, a[k]? = some s := ⟨a[k], List.getElem?_eq_getElem hlt⟩
      obtain ⟨b', off, rfl, hb', hc⟩ := HC.out k s hs
      have hd := (hbr.cell (p := ⟨b', off + k, none⟩) hb').trans hc
      have htk : a.take (k + 1) = a.take k ++ [s] := by rw [List.take_add_one, hs]; rfl
      have cS := cH s wr hbr
      by_cases hin : s ∈ b
      · have HA2 : Hid (acc = notF (a.take (k + 1)) b) := by
          show _ = _
          rw [htk, HA.out]; simp [notF, hin]
        rw [decide_eq_true hin] at cS
        clear htk hs hc HA hin
        go_wp2_with (go_at_call 56; with_reducible refine cS.mono ?_; rintro e w1 ⟨rfl, hw⟩; subst hw)
        go_roundg g'
        case measure => omega
        case rel => exact ⟨k + 1, acc, _, by omega, by go_num, rfl, by omega, hown, hbr, HA2.out⟩
      · have HA2 : Hid (acc ++ [s] = notF (a.take (k + 1)) b) := by
          show _ = _
          rw [htk, HA.out]; simp [notF, hin]
        rw [decide_eq_false hin] at cS
        clear htk hs hc HA hin
        go_wp2_with (first
          | (go_at_call 56; with_reducible refine cS.mono ?_; rintro e w1 ⟨rfl, hw⟩; subst hw)
          | (at_builtin; go_must (refine wpList_app1 rfl _ _ 35 rfl 9 Tryz.underlying35 str_info rfl w.heap.size _ _ _ _ rfl hown _ rfl rfl ?hn (by decide) hbr.size ?_)))
        case hn => omega
        intro v' w2 o2 g2 hv2
        have y2 := below_app hbr hbr.size hown g2
        have o3 : w2.ownsRow w.heap.size 9 1 v' (acc ++ [s]).length ((acc ++ [s]).map encStr) := by
          rw [List.length_append, List.map_append]; exact o2
        go_wp2_with fail
        go_roundg g'
        case measure => omega
        case rel => exact ⟨k + 1, acc ++ [s], _, by omega, by go_num, rfl, by simp; omega, o3, y2, HA2.out⟩
    · obtain rfl : k = a.length := by omega
      have hA : acc = notF a b := by rw [HA.out, List.take_length]
      subst hA
      go_wp2_with fail
      go_ret
      exact ⟨_, rfl, ⟨srow_owns hown, stag_owns hown⟩, hbr⟩
set_option maxRecDepth 100000 in
set_option maxHeartbeats 4000000 in
theorem same_any (v u : Value) (l : List (List UInt8)) (w : World) (hv : SRow w v l) (hu : SRow w u l) :
    Calls Tryz.prog 37 #[v, u] w fun e w' => e = .returned (.bool true) ∧ Below w.heap.size w w' := by
  obtain ⟨ao, cap, rfl, hcap, ⟨hcm, _⟩, hcell⟩ := hv
  obtain ⟨bo, cap', rfl, hcap', ⟨hcm', _⟩, hcell'⟩ := hu
  have HC := Lib.hid hcell
  have HD := Lib.hid hcell'
  clear hcell hcell'
  go_enter Tryz.func37, Tryz.ntmps37
  go_wp2_with fail
  go_loopg [5] l.length (fun g5 s5 wr => ∃ k : Nat, k + g5 = l.length ∧ s5 = .int .i64 (k : Int) ∧ Below w.heap.size w wr)
  case atStart => exact ⟨0, by omega, rfl, Below.refl _ _⟩
  case round =>
    obtain ⟨k, hk, rfl, hbr⟩ := hrel
    by_cases hlt : k < l.length
    · obtain ⟨g', rfl⟩ : ∃ g', gk = g' + 1 := ⟨gk - 1, by omega⟩
      obtain ⟨t, ht⟩ : ∃ t, l[k]? = some t := ⟨l[k], List.getElem?_eq_getElem hlt⟩
      obtain ⟨b, off, rfl, hb, hc⟩ := HC.out k t ht
      obtain ⟨b2, off2, rfl, hb2, hc2⟩ := HD.out k t ht
      have d1 : wr.drew.cell? ⟨b, off + k, none⟩ = some (.string ⟨t.toArray⟩) := (hbr.cell (p := ⟨b, off + k, none⟩) hb).trans hc
      have d2 : wr.drew.cell? ⟨b2, off2 + k, none⟩ = some (.string ⟨t.toArray⟩) := (hbr.cell (p := ⟨b2, off2 + k, none⟩) hb2).trans hc2
      have yd := hbr.drew
      clear ht hc hc2
      go_wp2_with fail
      go_region_held3 (fun W => W.cell? ⟨b, off + k, none⟩ = some (.string ⟨t.toArray⟩) ∧ W.cell? ⟨b2, off2 + k, none⟩ = some (.string ⟨t.toArray⟩))
        (first | exact ⟨d1, d2⟩) (fail)
      all_goals
        go_wp2_with fail
        go_roundg g'
        case measure => omega
        case rel => exact ⟨k + 1, by omega, by go_num, yd⟩
    · go_wp2_with fail
      go_ret
      exact ⟨rfl, hbr⟩
end Go.Proofs.YteclajckkjocnaaGreatDoor
