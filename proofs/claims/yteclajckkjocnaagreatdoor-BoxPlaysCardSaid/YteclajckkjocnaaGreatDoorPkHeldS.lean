/- Rows of cells that a call owns, at any encoding of one cell: what they hold, and what Clone, Delete, append leave. Over any program. No condition beyond those each names. The walks over slices.Clone and slices.Delete at int. Condition: none. The walks over slices.Clone and slices.Delete at []string. Condition: none. A region that draws its order, whose last stores write what its loads read: a load may be taken first, if the store waits for it. Over any program. No condition beyond those each names. -/
import Derived.Sort.OwnSorted
import Derived.Lib.SlicesDelete
import Derived.Lib.SliceRun
import Derived.Deep.RegionLaw
import Derived.OrdersHeld
import Derived.Deep.RegionHeld
import Derived.StillTail
import Derived.Test.YteclajckkjocnaaGreatDoorPkBytes
import Derived.Test.YteclajckkjocnaaGreatDoorPkContS
import Derived.Test.YteclajckkjocnaaGreatDoorPkFlagG
namespace Go.Proofs.YteclajckkjocnaaGreatDoor
open Go.RowKit Go.Sort
set_option linter.unusedSimpArgs false
theorem add_plE (b off j : Nat) : (⟨b, off, none⟩ : Addr).add j = ⟨b, off + j, none⟩ := by unfold Addr.add; split <;> simp_all
/-- slices' headers, as values -/
def encSl (x : Option Addr × Nat × Nat) : Value := .slice x.1 x.2.1 x.2.2
variable {α : Type} [Inhabited α] (enc : α → Value)
theorem holdsE {w : World} {g : Nat} {cur : Array Value} {e : TypeId} {ss : List α} (hb : w.heap[g]? = some (.cells cur e (0, 0))) (ht : cur.toList.take ss.length = ss.map enc) : Holds enc w g 0 ss.toArray := by
  intro j hj
  have hj' : j < ss.length := by simpa using hj
  refine ⟨?_, by simp [World.frozen?, hb]⟩
  have h1 : (cur.toList.take ss.length)[j]? = (ss.map enc)[j]? := by rw [ht]
  rw [List.getElem?_take_of_lt hj'] at h1
  simp only [World.cell?, hb, Nat.zero_add]
  simp only [Option.isSome_none, Bool.false_eq_true, if_false]
  rw [← Array.getElem?_toList, h1]
  simp [hj']
theorem heapE {w : World} {g n : Nat} {cur : Array Value} {e : TypeId} {fr : Nat × Nat} (d : Array α) (hb : w.heap[g]? = some (.cells cur e fr)) :
    (putRow enc (Sort.ahead w n) g 0 d).heap[g]? = some (.cells (putCells enc 0 d cur) e fr) := by
  simp [putRow, mapBlock, Sort.ahead, Array.getElem?_modify, hb, onCells]
theorem grownE {w : World} {g n : Nat} (d : Array α) : w.grownBy (putRow enc (Sort.ahead w n) g 0 d) (some g) := by
  refine ⟨rfl, rfl, rfl, by simp, fun k hk hne => ?_⟩
  have : g ≠ k := fun e => hne (by rw [e])
  simp [putRow, mapBlock, Sort.ahead, Array.getElem?_modify, this]
theorem takeE (cur : Array Value) (ts : List α) (h : ts.length ≤ cur.size) : (putCells enc 0 ts.toArray cur).toList.take ts.length = ts.map enc := by
  apply List.ext_getElem?
  intro j
  by_cases hj : j < ts.length
  · rw [List.getElem?_take_of_lt hj, Array.getElem?_toList]
    simp [putCells, hj, show j < cur.size by omega]
  · rw [List.getElem?_take_eq_none (by omega), List.getElem?_eq_none (by simp; omega)]
/-- a row written anew, and cut -/
theorem ownsE {w : World} {base g cap n m : Nat} {e : TypeId} {cur : Array Value} {ts : List α} (hbase : base ≤ g) (hb : w.heap[g]? = some (.cells cur e (0, 0)))
    (h1 : ts.length ≤ cap) (h2 : cap ≤ maxLen) (h3 : cur.size = cap * 1) (hm : m ≤ ts.length) :
    (putRow enc (Sort.ahead w n) g 0 ts.toArray).ownsRow base e 1 (.slice (some ⟨g, 0, none⟩) m cap) m ((ts.take m).map enc) := by
  refine ⟨by simp; omega, .inr ⟨g, cap, _, rfl, hbase, heapE enc _ hb, by omega, h2, by simp [putCells, h3], ?_⟩⟩
  rw [Nat.mul_one]
  have := takeE enc cur ts (by omega)
  rw [List.map_take, ← this, List.take_take, Nat.min_eq_left hm]
end Go.Proofs.YteclajckkjocnaaGreatDoor
namespace Go.Proofs.YteclajckkjocnaaGreatDoor
open Go.RowKit Go.Shelf Go.Sort
set_option linter.unusedSimpArgs false
theorem infoRowI : (Tryz.prog.info? 3).map (fun i => (i.zero, i.size, i.bytes)) = some (some (.int .i64 0), 1, 8) := by kernel_rfl
set_option maxRecDepth 100000 in
set_option maxHeartbeats 2000000 in
theorem cloneRowI (v : Value) (n B : Nat) (xs : List Int) (w : World) (hv : w.ownsRow B 3 1 v n (xs.map (Value.int .i64))) (hl : n ≤ 1000000) :
    Calls Tryz.prog 40 #[v] w fun e w' => ∃ v', e = .returned v' ∧ w'.ownsRow w.heap.size 3 1 v' n (xs.map (Value.int .i64)) ∧ Below w.heap.size w w' := by
  obtain ⟨i0, hi, hz0, hz1, hz2⟩ := info_parts infoRowI
  have qE : ∀ (w : World) (a : Option Addr) (n c n' c' : Nat), (binOp .eql 46 (.slice a n c) (.slice none n' c')).run Tryz.prog w = .ok (.bool a.isNone) w := fun w a n c n' c' => Lib.run_eql_slice_nil w _ _ a n c n' c' Tryz.underlying46
  have hlen : (xs.map (Value.int .i64)).length = n * 1 := hv.1
  rcases hv.2 with ⟨rfl, rfl⟩ | ⟨g, cap, cur, rfl, hg, hh, h3, h4, h5, h6⟩
  · obtain rfl : xs = [] := List.eq_nil_of_length_eq_zero (by simpa using hlen)
    clear hv hlen
    go_enter Tryz.func40, Tryz.ntmps40
    go_wp2_with fail
    go_ret
    exact ⟨_, rfl, World.ownsRow_nil _ _ _ _, Below.refl _ _⟩
  · have H1 : Hid (∀ u ∈ xs.map (Value.int .i64), u.oneCell' = true) := fun u hu => by
      obtain ⟨x, _, rfl⟩ := List.mem_map.1 hu
      rfl
    have HL := Lib.hid hlen
    have HC : Hid (∀ j u, (xs.map (Value.int .i64))[j]? = some u → (w.alloc (.cells #[] 3)).cell? ((⟨g, 0, none⟩ : Addr).add j) = some u) := fun j u hj => by
      have hlt : j < n * 1 := by
        have := (List.getElem?_eq_some_iff.1 hj).1
        rw [hlen] at this
        exact this
      rw [add_plE, Nat.zero_add]
      refine (((Below.refl w.heap.size w).alloc (Nat.le_refl _) _).cell (p := ⟨g, j, none⟩) (Array.getElem?_eq_some_iff.1 hh).1).trans ?_
      rw [hv.cellAt j hlt]
      exact hj
    clear hv hlen hh h5 h6
    go_enter Tryz.func40, Tryz.ntmps40
    go_wp2_with (at_builtin; go_must (refine wpList_append_own _ rfl _ _ 46 rfl w.heap.size 3 i0 _ 1 8 Tryz.underlying46 hi hz0 hz1 hz2 rfl (by decide) _ _ _ rfl (World.ownsRow_made w #[] 0 (Nat.le_refl _) (Nat.zero_le _) rfl) ⟨g, 0, none⟩ n cap (xs.map (Value.int .i64)) rfl HL.out HC.out H1.out ?c4 ?c5 ?c6 ?_))
    case c4 => unfold maxLen; omega
    case c5 => omega
    case c6 => simp
    intro v' w1 hown hgrow _
    go_wp2_with fail
    go_ret
    exact ⟨v', rfl, by simpa using hown, ((Below.refl _ w).alloc (Nat.le_refl _) _).grown hgrow (by simp) (by intro k hk; simp [Value.ownBlock] at hk; omega)⟩
theorem zeroRowI (w : World) : (zeroValue 3).run Tryz.prog w = .ok (.int .i64 0) w := by kernel_rfl
set_option maxRecDepth 100000 in
set_option maxHeartbeats 4000000 in
theorem delArrRowI (blk off cap i : Nat) (d : Array Int) (w : World) (hH : Holds (Value.int .i64) w blk off d) (hcap : d.size ≤ cap) (_hm : cap ≤ 9223372036854775807) (hlt : i < d.size) :
    Calls Tryz.prog 58 #[.slice (some ⟨blk, off, none⟩) d.size cap, .int .i64 (i : Int), .int .i64 ((i : Int) + 1)] w fun e w' => e = .returned (.slice (some ⟨blk, off, none⟩) (i + (d.size - (i + 1))) cap) ∧ ∃ q, w' = putRow (Value.int .i64) (Sort.ahead w q) blk off (d.toList.take i ++ d.toList.drop (i + 1) ++ List.replicate 1 (0 : Int)).toArray := by
  obtain ⟨i0, hi0, hz0, hz1, hz2⟩ := info_parts infoRowI
  obtain ⟨j, hj⟩ : ∃ j, j = i + 1 := ⟨_, rfl⟩
  have hji : (i : Int) + 1 = (j : Int) := by omega
  rw [hji, ← hj]
  have hij : i < j := by omega
  have hjd : j ≤ d.size := by omega
  have hj1 : j - i = 1 := by omega
  have HJ := Lib.hid hj1
  obtain ⟨news, hnews⟩ : ∃ news, news = (d.toList.drop j).map (Value.int .i64) := ⟨_, rfl⟩
  have hlen : news.length = d.size - j := by rw [hnews]; simp
  have hget : ∀ t, t < d.size - j → news[t]? = some ((Value.int .i64) d[j + t]!) := by
    intro t ht
    rw [hnews, List.getElem?_map, List.getElem?_drop, Array.getElem?_toList, getElem!_pos d (j + t) (by omega), Array.getElem?_eq_getElem (by omega)]
    rfl
  obtain ⟨A, hA, hsrc⟩ : ∃ A : Addr, (if cap = j then some (⟨blk, off, none⟩ : Addr) else some ⟨blk, off + j, none⟩) = some A ∧ Hid (∀ t u, news[t]? = some u → w.drew.cell? (A.add t) = some u) := by
    by_cases h : cap = j
    · refine ⟨⟨blk, off, none⟩, by simp [h], fun t u hu => ?_⟩
      have h0 : news.length = 0 := by rw [hlen]; omega
      rw [List.length_eq_zero_iff.1 h0] at hu
      simp at hu
    · refine ⟨⟨blk, off + j, none⟩, by simp [h], fun t u hu => ?_⟩
      have ht : t < d.size - j := by
        have := (List.getElem?_eq_some_iff.1 hu).1
        rwa [hlen] at this
      rw [hget t ht] at hu
      rw [add_plE, show off + j + t = off + (j + t) by omega]
      exact (hH (j + t) (by omega)).1.trans hu
  have s1 : Hid (news.length = (d.size - j) * 1) := by rw [Nat.mul_one]; exact hlen
  have s2 : Hid (∀ u ∈ news, u.oneCell' = true) := by
    intro u hu
    rw [hnews] at hu
    obtain ⟨x, _, rfl⟩ := List.mem_map.1 hu
    rfl
  have s3 : Hid (∀ t, t < news.length → (w.drew.cell? ⟨blk, off + i * 1 + t, none⟩).isSome = true ∧ w.drew.frozen? ⟨blk, off + i * 1 + t, none⟩ = false) := by
    intro t ht
    rw [hlen] at ht
    rw [Nat.mul_one, Nat.add_assoc]
    exact ⟨by show (w.cell? _).isSome = true; rw [(hH (i + t) (by omega)).1]; rfl, (hH (i + t) (by omega)).2⟩
  obtain ⟨W1, hW1⟩ : ∃ W1, W1 = w.drew.setCells blk (off + i * 1) news := ⟨_, rfl⟩
  have hW1' : W1 = putRow (Value.int .i64) (Sort.ahead w 1) blk off (Lib.lay d i (d.toList.drop j)) := by
    rw [hW1, hnews, Nat.mul_one, ← Lib.putRow_setCells (Value.int .i64) (Sort.ahead w 1) blk off _ d i (by simp; omega), putRow_self (Value.int .i64) (Sort.ahead w 1) blk off d (holds_ahead (Value.int .i64) w 1 blk off d hH)]
    rfl
  have hH1 : Holds (Value.int .i64) W1 blk off (Lib.lay d i (d.toList.drop j)) := by rw [hW1']; exact holds_putRow (Value.int .i64) _ blk off d _ (holds_ahead (Value.int .i64) w 1 blk off d hH) (Lib.lay_size _ _ _)
  have hcl : ∀ ty, (Builtin.clear_ #[46] ty #[.slice (some ⟨blk, off + (i + (d.size - j)), none⟩) (d.size - (i + (d.size - j))) (cap - (i + (d.size - j)))]).run Tryz.prog W1 = .ok (.tuple #[]) (W1.setCells blk (off + (i + (d.size - j))) (List.replicate (d.size - (i + (d.size - j))) ((Value.int .i64) (0 : Int)))) :=
    fun ty => Lib.run_clear_slice W1 _ _ ty _ Tryz.underlying46 zeroRowI rfl rfl blk (off + (i + (d.size - j))) _ _ (by omega) (fun t ht => by rw [show off + (i + (d.size - j)) + t = off + (i + (d.size - j) + t) by omega, (hH1 _ (by rw [Lib.lay_size]; omega)).1]; rfl) (fun t ht => by rw [show off + (i + (d.size - j)) + t = off + (i + (d.size - j) + t) by omega]; exact (hH1 _ (by rw [Lib.lay_size]; omega)).2)
  have X : Hid (W1 = putRow (Value.int .i64) (Sort.ahead w 1) blk off (Lib.lay d i (d.toList.drop j))) := hW1'
  have hW : Hid (W1 = w.drew.setCells blk (off + i * 1) news) := hW1
  have hic : i ≤ cap := by omega
  have hjc : j ≤ cap := by omega
  clear hW1 hW1' hH1 hH hget hnews hlen hj hj1 hji
  go_enter Tryz.func58, Tryz.ntmps58
  go_wp2_with fail
  go_region_law (refine step_append_room rfl (.tmp 22) (.tmp 25) 46 rfl 3 i0 1 Tryz.underlying46 hi0 hz1 blk off i cap (by simp [Act.eval, Act.put]) A (d.size - j) (cap - j) news (by simp [Act.eval, Act.put]) s1.out hsrc.out s2.out (by omega) s3.out ?_; rw [← hW.out])
  go_wp2_with fail
  go_ret
  refine ⟨rfl, 1, ?_⟩
  have e1 : (j - i) = 1 := HJ.out
  rw [show List.replicate 1 (0 : Int) = List.replicate (j - i) (0 : Int) by rw [e1], ← Lib.delete_arr d i j (0 : Int) (by omega) hjd, ← Lib.putRow_setCells (Value.int .i64) _ blk off _ _ (i + (d.size - j)) (by rw [Lib.lay_size]; simp; omega), ← X.out, List.map_replicate, show d.size - (i + (d.size - j)) = j - i by omega]
theorem delRowI (g cap B n i : Nat) (xs : List Int) (w : World) (hv : w.ownsRow B 3 1 (.slice (some ⟨g, 0, none⟩) n cap) n (xs.map (Value.int .i64))) (hi : i < n) :
    Calls Tryz.prog 58 #[.slice (some ⟨g, 0, none⟩) n cap, .int .i64 (i : Int), .int .i64 ((i : Int) + 1)] w fun e w' => e = .returned (.slice (some ⟨g, 0, none⟩) (n - 1) cap) ∧ w'.ownsRow B 3 1 (.slice (some ⟨g, 0, none⟩) (n - 1) cap) (n - 1) ((xs.eraseIdx i).map (Value.int .i64)) ∧ w.grownBy w' (some g) := by
  have hlen : xs.length = n := by have := hv.1; simpa using this
  subst hlen
  rcases hv.2 with ⟨h, _⟩ | ⟨g', cap', cur, h, hbase, hb, h1, h2, h3, h4⟩
  · cases h
  · cases h
    have hH : Holds (Value.int .i64) w g 0 xs.toArray := holdsE (Value.int .i64) hb (by simpa using h4)
    have hc := delArrRowI g 0 cap i xs.toArray w hH (by simpa using h1) (by unfold maxLen at h2; omega) (by simpa using hi)
    simp only [List.size_toArray] at hc
    refine hc.mono ?_
    rintro e w' ⟨rfl, q, rfl⟩
    have e1 : i + (xs.length - (i + 1)) = xs.length - 1 := by omega
    rw [e1]
    have e2 : (xs.take i ++ xs.drop (i + 1) ++ List.replicate 1 (0 : Int)).length = xs.length := by simp; omega
    have ho := ownsE (Value.int .i64) (n := q) (m := xs.length - 1) (ts := xs.take i ++ xs.drop (i + 1) ++ List.replicate 1 (0 : Int)) hbase hb (by omega) h2 h3 (by omega)
    refine ⟨rfl, ?_, grownE (Value.int .i64) _⟩
    have e3 : (xs.take i ++ xs.drop (i + 1) ++ List.replicate 1 (0 : Int)).take (xs.length - 1) = xs.eraseIdx i := by
      rw [List.take_append_of_le_length (by simp; omega), List.take_of_length_le (by simp; omega), List.eraseIdx_eq_take_drop_succ]
    rw [e3] at ho
    exact ho
end Go.Proofs.YteclajckkjocnaaGreatDoor
namespace Go.Proofs.YteclajckkjocnaaGreatDoor
open Go.RowKit Go.Shelf Go.Sort
set_option linter.unusedSimpArgs false
theorem infoRowS : (Tryz.prog.info? 35).map (fun i => (i.zero, i.size, i.bytes)) = some (some (.slice none 0 0), 1, 24) := by kernel_rfl
set_option maxRecDepth 100000 in
set_option maxHeartbeats 2000000 in
theorem cloneRowS (v : Value) (n B : Nat) (xs : List (Option Addr × Nat × Nat)) (w : World) (hv : w.ownsRow B 35 1 v n (xs.map encSl)) (hl : n ≤ 1000000) :
    Calls Tryz.prog 60 #[v] w fun e w' => ∃ v', e = .returned v' ∧ w'.ownsRow w.heap.size 35 1 v' n (xs.map encSl) ∧ Below w.heap.size w w' := by
  obtain ⟨i0, hi, hz0, hz1, hz2⟩ := info_parts infoRowS
  have qE : ∀ (w : World) (a : Option Addr) (n c n' c' : Nat), (binOp .eql 63 (.slice a n c) (.slice none n' c')).run Tryz.prog w = .ok (.bool a.isNone) w := fun w a n c n' c' => Lib.run_eql_slice_nil w _ _ a n c n' c' Tryz.underlying63
  have hlen : (xs.map encSl).length = n * 1 := hv.1
  rcases hv.2 with ⟨rfl, rfl⟩ | ⟨g, cap, cur, rfl, hg, hh, h3, h4, h5, h6⟩
  · obtain rfl : xs = [] := List.eq_nil_of_length_eq_zero (by simpa using hlen)
    clear hv hlen
    go_enter Tryz.func60, Tryz.ntmps60
    go_wp2_with fail
    go_ret
    exact ⟨_, rfl, World.ownsRow_nil _ _ _ _, Below.refl _ _⟩
  · have H1 : Hid (∀ u ∈ xs.map encSl, u.oneCell' = true) := fun u hu => by
      obtain ⟨x, _, rfl⟩ := List.mem_map.1 hu
      rfl
    have HL := Lib.hid hlen
    have HC : Hid (∀ j u, (xs.map encSl)[j]? = some u → (w.alloc (.cells #[] 35)).cell? ((⟨g, 0, none⟩ : Addr).add j) = some u) := fun j u hj => by
      have hlt : j < n * 1 := by
        have := (List.getElem?_eq_some_iff.1 hj).1
        rw [hlen] at this
        exact this
      rw [add_plE, Nat.zero_add]
      refine (((Below.refl w.heap.size w).alloc (Nat.le_refl _) _).cell (p := ⟨g, j, none⟩) (Array.getElem?_eq_some_iff.1 hh).1).trans ?_
      rw [hv.cellAt j hlt]
      exact hj
    clear hv hlen hh h5 h6
    go_enter Tryz.func60, Tryz.ntmps60
    go_wp2_with (at_builtin; go_must (refine wpList_append_own _ rfl _ _ 63 rfl w.heap.size 35 i0 _ 1 24 Tryz.underlying63 hi hz0 hz1 hz2 rfl (by decide) _ _ _ rfl (World.ownsRow_made w #[] 0 (Nat.le_refl _) (Nat.zero_le _) rfl) ⟨g, 0, none⟩ n cap (xs.map encSl) rfl HL.out HC.out H1.out ?c4 ?c5 ?c6 ?_))
    case c4 => unfold maxLen; omega
    case c5 => omega
    case c6 => simp
    intro v' w1 hown hgrow _
    go_wp2_with fail
    go_ret
    exact ⟨v', rfl, by simpa using hown, ((Below.refl _ w).alloc (Nat.le_refl _) _).grown hgrow (by simp) (by intro k hk; simp [Value.ownBlock] at hk; omega)⟩
theorem zeroRowS (w : World) : (zeroValue 35).run Tryz.prog w = .ok (.slice none 0 0) w := by kernel_rfl
set_option maxRecDepth 100000 in
set_option maxHeartbeats 4000000 in
theorem delArrRowS (blk off cap i : Nat) (d : Array (Option Addr × Nat × Nat)) (w : World) (hH : Holds encSl w blk off d) (hcap : d.size ≤ cap) (_hm : cap ≤ 9223372036854775807) (hlt : i < d.size) :
    Calls Tryz.prog 59 #[.slice (some ⟨blk, off, none⟩) d.size cap, .int .i64 (i : Int), .int .i64 ((i : Int) + 1)] w fun e w' => e = .returned (.slice (some ⟨blk, off, none⟩) (i + (d.size - (i + 1))) cap) ∧ ∃ q, w' = putRow encSl (Sort.ahead w q) blk off (d.toList.take i ++ d.toList.drop (i + 1) ++ List.replicate 1 ((none, 0, 0) : Option Addr × Nat × Nat)).toArray := by
  obtain ⟨i0, hi0, hz0, hz1, hz2⟩ := info_parts infoRowS
  obtain ⟨j, hj⟩ : ∃ j, j = i + 1 := ⟨_, rfl⟩
  have hji : (i : Int) + 1 = (j : Int) := by omega
  rw [hji, ← hj]
  have hij : i < j := by omega
  have hjd : j ≤ d.size := by omega
  have hj1 : j - i = 1 := by omega
  have HJ := Lib.hid hj1
  obtain ⟨news, hnews⟩ : ∃ news, news = (d.toList.drop j).map encSl := ⟨_, rfl⟩
  have hlen : news.length = d.size - j := by rw [hnews]; simp
  have hget : ∀ t, t < d.size - j → news[t]? = some (encSl d[j + t]!) := by
    intro t ht
    rw [hnews, List.getElem?_map, List.getElem?_drop, Array.getElem?_toList, getElem!_pos d (j + t) (by omega), Array.getElem?_eq_getElem (by omega)]
    rfl
  obtain ⟨A, hA, hsrc⟩ : ∃ A : Addr, (if cap = j then some (⟨blk, off, none⟩ : Addr) else some ⟨blk, off + j, none⟩) = some A ∧ Hid (∀ t u, news[t]? = some u → w.drew.cell? (A.add t) = some u) := by
    by_cases h : cap = j
    · refine ⟨⟨blk, off, none⟩, by simp [h], fun t u hu => ?_⟩
      have h0 : news.length = 0 := by rw [hlen]; omega
      rw [List.length_eq_zero_iff.1 h0] at hu
      simp at hu
    · refine ⟨⟨blk, off + j, none⟩, by simp [h], fun t u hu => ?_⟩
      have ht : t < d.size - j := by
        have := (List.getElem?_eq_some_iff.1 hu).1
        rwa [hlen] at this
      rw [hget t ht] at hu
      rw [add_plE, show off + j + t = off + (j + t) by omega]
      exact (hH (j + t) (by omega)).1.trans hu
  have s1 : Hid (news.length = (d.size - j) * 1) := by rw [Nat.mul_one]; exact hlen
  have s2 : Hid (∀ u ∈ news, u.oneCell' = true) := by
    intro u hu
    rw [hnews] at hu
    obtain ⟨x, _, rfl⟩ := List.mem_map.1 hu
    rfl
  have s3 : Hid (∀ t, t < news.length → (w.drew.cell? ⟨blk, off + i * 1 + t, none⟩).isSome = true ∧ w.drew.frozen? ⟨blk, off + i * 1 + t, none⟩ = false) := by
    intro t ht
    rw [hlen] at ht
    rw [Nat.mul_one, Nat.add_assoc]
    exact ⟨by show (w.cell? _).isSome = true; rw [(hH (i + t) (by omega)).1]; rfl, (hH (i + t) (by omega)).2⟩
  obtain ⟨W1, hW1⟩ : ∃ W1, W1 = w.drew.setCells blk (off + i * 1) news := ⟨_, rfl⟩
  have hW1' : W1 = putRow encSl (Sort.ahead w 1) blk off (Lib.lay d i (d.toList.drop j)) := by
    rw [hW1, hnews, Nat.mul_one, ← Lib.putRow_setCells encSl (Sort.ahead w 1) blk off _ d i (by simp; omega), putRow_self encSl (Sort.ahead w 1) blk off d (holds_ahead encSl w 1 blk off d hH)]
    rfl
  have hH1 : Holds encSl W1 blk off (Lib.lay d i (d.toList.drop j)) := by rw [hW1']; exact holds_putRow encSl _ blk off d _ (holds_ahead encSl w 1 blk off d hH) (Lib.lay_size _ _ _)
  have hcl : ∀ ty, (Builtin.clear_ #[63] ty #[.slice (some ⟨blk, off + (i + (d.size - j)), none⟩) (d.size - (i + (d.size - j))) (cap - (i + (d.size - j)))]).run Tryz.prog W1 = .ok (.tuple #[]) (W1.setCells blk (off + (i + (d.size - j))) (List.replicate (d.size - (i + (d.size - j))) (encSl ((none, 0, 0) : Option Addr × Nat × Nat)))) :=
    fun ty => Lib.run_clear_slice W1 _ _ ty _ Tryz.underlying63 zeroRowS rfl rfl blk (off + (i + (d.size - j))) _ _ (by omega) (fun t ht => by rw [show off + (i + (d.size - j)) + t = off + (i + (d.size - j) + t) by omega, (hH1 _ (by rw [Lib.lay_size]; omega)).1]; rfl) (fun t ht => by rw [show off + (i + (d.size - j)) + t = off + (i + (d.size - j) + t) by omega]; exact (hH1 _ (by rw [Lib.lay_size]; omega)).2)
  have X : Hid (W1 = putRow encSl (Sort.ahead w 1) blk off (Lib.lay d i (d.toList.drop j))) := hW1'
  have hW : Hid (W1 = w.drew.setCells blk (off + i * 1) news) := hW1
  have hic : i ≤ cap := by omega
  have hjc : j ≤ cap := by omega
  clear hW1 hW1' hH1 hH hget hnews hlen hj hj1 hji
  go_enter Tryz.func59, Tryz.ntmps59
  go_wp2_with fail
  go_region_law (refine step_append_room rfl (.tmp 22) (.tmp 25) 63 rfl 35 i0 1 Tryz.underlying63 hi0 hz1 blk off i cap (by simp [Act.eval, Act.put]) A (d.size - j) (cap - j) news (by simp [Act.eval, Act.put]) s1.out hsrc.out s2.out (by omega) s3.out ?_; rw [← hW.out])
  go_wp2_with fail
  go_ret
  refine ⟨rfl, 1, ?_⟩
  have e1 : (j - i) = 1 := HJ.out
  rw [show List.replicate 1 ((none, 0, 0) : Option Addr × Nat × Nat) = List.replicate (j - i) ((none, 0, 0) : Option Addr × Nat × Nat) by rw [e1], ← Lib.delete_arr d i j ((none, 0, 0) : Option Addr × Nat × Nat) (by omega) hjd, ← Lib.putRow_setCells encSl _ blk off _ _ (i + (d.size - j)) (by rw [Lib.lay_size]; simp; omega), ← X.out, List.map_replicate, show d.size - (i + (d.size - j)) = j - i by omega]
theorem delRowS (g cap B n i : Nat) (xs : List (Option Addr × Nat × Nat)) (w : World) (hv : w.ownsRow B 35 1 (.slice (some ⟨g, 0, none⟩) n cap) n (xs.map encSl)) (hi : i < n) :
    Calls Tryz.prog 59 #[.slice (some ⟨g, 0, none⟩) n cap, .int .i64 (i : Int), .int .i64 ((i : Int) + 1)] w fun e w' => e = .returned (.slice (some ⟨g, 0, none⟩) (n - 1) cap) ∧ w'.ownsRow B 35 1 (.slice (some ⟨g, 0, none⟩) (n - 1) cap) (n - 1) ((xs.eraseIdx i).map encSl) ∧ w.grownBy w' (some g) := by
  have hlen : xs.length = n := by have := hv.1; simpa using this
  subst hlen
  rcases hv.2 with ⟨h, _⟩ | ⟨g', cap', cur, h, hbase, hb, h1, h2, h3, h4⟩
  · cases h
  · cases h
    have hH : Holds encSl w g 0 xs.toArray := holdsE encSl hb (by simpa using h4)
    have hc := delArrRowS g 0 cap i xs.toArray w hH (by simpa using h1) (by unfold maxLen at h2; omega) (by simpa using hi)
    simp only [List.size_toArray] at hc
    refine hc.mono ?_
    rintro e w' ⟨rfl, q, rfl⟩
    have e1 : i + (xs.length - (i + 1)) = xs.length - 1 := by omega
    rw [e1]
    have e2 : (xs.take i ++ xs.drop (i + 1) ++ List.replicate 1 ((none, 0, 0) : Option Addr × Nat × Nat)).length = xs.length := by simp; omega
    have ho := ownsE encSl (n := q) (m := xs.length - 1) (ts := xs.take i ++ xs.drop (i + 1) ++ List.replicate 1 ((none, 0, 0) : Option Addr × Nat × Nat)) hbase hb (by omega) h2 h3 (by omega)
    refine ⟨rfl, ?_, grownE encSl _⟩
    have e3 : (xs.take i ++ xs.drop (i + 1) ++ List.replicate 1 ((none, 0, 0) : Option Addr × Nat × Nat)).take (xs.length - 1) = xs.eraseIdx i := by
      rw [List.take_append_of_le_length (by simp; omega), List.take_of_length_le (by simp; omega), List.eraseIdx_eq_take_drop_succ]
    rw [e3] at ho
    exact ho
end Go.Proofs.YteclajckkjocnaaGreatDoor
namespace Go.Proofs.YteclajckkjocnaaGreatDoor
open Go.RowKit
set_option linter.unusedSimpArgs false
section
variable {P : Program} {ops : Array Oper} {Q : Exit → Act → World → Prop} {md : Region.Mode} {S S0 : World → Prop} {t : Nat}
/-- whatever order is picked from here on; S0 holds behind each operation, and S as long as number t has not come up -/
def wpUntil (P : Program) (md : Region.Mode) (ops : Array Oper) (Q : Exit → Act → World → Prop) (S S0 : World → Prop) (t : Nat) : Nat → Array Bool → Act → World → Prop
  | 0, l, a, w => Region.ready md ops l = [] ∧ Q .normal a w
  | f + 1, l, a, w => (Region.ready md ops l = [] → Q .normal a w) ∧
    ∀ i ∈ Region.ready md ops l, wpOp P ops Q i (fun a' w' => (S0 w' ∧ (i ≠ t → l.getD t true = false → S w')) ∧ wpUntil P md ops Q S S0 t f (l.setIfInBounds i true) a' w') a w
theorem until_start {id : Nat} {a : Act} {w : World} (hm : P.follows .mixedOrders = true) (h : wpUntil P .any ops Q S S0 t ops.size (Array.replicate ops.size false) a w.drew) : (Code.region id ops true).wp P Q a w :=
  wp_region_held (S := fun _ => True) hm (by
    have key : ∀ (f : Nat) (l : Array Bool) (a : Act) (w : World), wpUntil P .any ops Q S S0 t f l a w → wpAnyH P .any ops Q (fun _ => True) f l a w := by
      intro f
      induction f with
      | zero => intro l a w h; exact h
      | succ f ih => intro l a w h; exact ⟨h.1, fun i hi => wpOp_mono (fun a' w' k => ⟨trivial, ih _ a' w' k.2⟩) (h.2 i hi)⟩
    exact key _ _ _ _ h)
/-- an operation that t waits for, or that yields under S0 alone, may be taken first -/
theorem until_first {i : Nat} {oi : Oper} {v : Value} {Sx : World → Prop} (hi : ops[i]? = some oi) (hsel : ∀ (j : Nat) (o : Oper) cs b, ops[j]? = some o → o.op ≠ .select cs b)
    (hQ : ∀ c a w, Q (.panic c) (a.put oi.dst v) w → Q (.panic c) a w) (hit : i ≠ t) (hx : Sx = S0 ∨ Sx = S ∧ Region.waitsFor md ops t i = true) :
    ∀ (f : Nat) (l : Array Bool) (a : Act) (w : World),
      (∀ j oj, ops[j]? = some oj → j ≠ i → l.getD j true = false → (∀ e ∈ oj.after, Region.binds md e = true → e.on ≠ i) → oi.apart ops oj = true) →
      i ∈ Region.ready md ops l → YieldsIf P ops Sx oi v a → S0 w → (Sx = S0 ∨ l.getD t true = false) → (l.getD t true = false → S w) →
      wpUntil P md ops Q S S0 t f (l.setIfInBounds i true) (a.put oi.dst v) w → wpUntil P md ops Q S S0 t (f + 1) l a w := by
  have hxw : ∀ (l : Array Bool) (w : World), S0 w → (Sx = S0 ∨ l.getD t true = false) → (l.getD t true = false → S w) → Sx w := fun l w h0 h1 h2 => by
    rcases hx with rfl | ⟨rfl, _⟩
    · exact h0
    · rcases h1 with e | e
      · rw [e]; exact h0
      · exact h2 e
  have hnt : ∀ (l : Array Bool) (j : Nat), l.getD i true = false → l.size ≠ 0 ∨ True → j ∈ Region.ready md ops l → j = t → Sx = S0 := fun l j hli _ hj hjt => by
    rcases hx with e | ⟨_, hw⟩
    · exact e
    · exfalso
      subst hjt
      obtain ⟨oj, hoj, e, he, hb, hon⟩ := Region.waitsFor_spec hw
      obtain ⟨_, oj', hoj', hall⟩ := mem_ready.1 hj
      rw [hoj] at hoj'
      cases hoj'
      have h1 := hall e he hb
      rw [hon] at h1
      rw [getD_both hli] at h1
      cases h1
  intro f
  induction f with
  | zero =>
    intro l a w _ hr hy h0 h1 h2 H
    refine ⟨fun h => (by rw [h] at hr; cases hr), fun j hj => ?_⟩
    by_cases hji : j = i
    · subst hji; exact hy.wpOp hi (hxw l w h0 h1 h2) ⟨⟨h0, fun _ => h2⟩, H⟩
    · have := ready_mono hj hji
      rw [H.1] at this
      cases this
  | succ f ih =>
    intro l a w hfree hr hy h0 h1 h2 H
    refine ⟨fun h => (by rw [h] at hr; cases hr), fun j hj => ?_⟩
    have hli := (mem_ready.1 hr).1
    by_cases hji : j = i
    · subst hji; exact hy.wpOp hi (hxw l w h0 h1 h2) ⟨⟨h0, fun _ => h2⟩, H⟩
    · have k1 := H.2 j (ready_mono hj hji)
      obtain ⟨hjun, oj, hoj, hall⟩ := mem_ready.1 hj
      have hnot : ∀ e ∈ oj.after, Region.binds md e = true → e.on ≠ i := fun e he hb heq => by
        have g1 := hall e he hb
        rw [heq, getD_both hli] at g1
        cases g1
      have k2 := wpOp_putIf hoj (hfree j oj hoj hji hjun hnot) (fun cs b => hsel i oi cs b hi) (fun cs b => hsel j oj cs b hoj) hQ hy k1
      have hfree' : ∀ k ok, ops[k]? = some ok → k ≠ i → (l.setIfInBounds j true).getD k true = false → (∀ e ∈ ok.after, Region.binds md e = true → e.on ≠ i) → oi.apart ops ok = true := fun k ok hk hki hun hno => by
        by_cases hjk : j = k
        · subst hjk; exact hfree _ _ hk hki hjun hno
        · rw [getD_set_ne true hjk] at hun
          exact hfree _ _ hk hki hun hno
      have hti : (l.setIfInBounds i true).getD t true = l.getD t true := getD_set_ne true hit
      refine wpOp_mono (fun a' w' k3 => ?_) k2
      obtain ⟨y, ⟨s0, s1⟩, k⟩ := k3
      rw [hti] at s1
      refine ⟨⟨s0, s1⟩, ih (l.setIfInBounds j true) a' w' hfree' (ready_mono hr (Ne.symm hji)) y s0 ?_ ?_ ?_⟩
      · by_cases hjt : j = t
        · exact Or.inl (hnt l j hli (Or.inr trivial) hj hjt)
        · rw [getD_set_ne true hjt]; exact h1
      · by_cases hjt : j = t
        · intro hh
          subst hjt
          exfalso
          have hlt : j < l.size := by
            rcases Nat.lt_or_ge j l.size with q | q
            · exact q
            · simp [Array.getElem?_eq_none q] at hjun
          simp [hlt] at hh
        · rw [getD_set_ne true hjt]; exact s1 hjt
      · rw [Array.setIfInBounds_comm _ _ hji]
        exact k
/-- a load that t waits for, taken first -/
theorem until_take {i : Nat} {oi : Oper} {v : Value} {f : Nat} {l : Array Bool} {a : Act} {w : World} (hi : ops[i]? = some oi) (hs : Region.noSelect ops = true) (hf : Region.free md ops l i = true) (hr : (Region.ready md ops l).contains i = true)
    (hw : (i != t && Region.waitsFor md ops t i && !l.getD t true) = true) (hQ : ∀ c a w, Q (.panic c) (a.put oi.dst v) w → Q (.panic c) a w) (hy : YieldsIf P ops S oi v a) (h0 : S0 w) (h1 : S w)
    (h : wpUntil P md ops Q S S0 t f (l.setIfInBounds i true) (a.put oi.dst v) w) : wpUntil P md ops Q S S0 t (f + 1) l a w := by
  simp only [Bool.and_eq_true, bne_iff_ne, ne_eq, Bool.not_eq_true'] at hw
  exact until_first hi (Region.noSelect_spec hs) hQ hw.1.1 (Or.inr ⟨rfl, hw.1.2⟩) f l a w (Region.free_spec hi hf) (by simpa using hr) hy h0 (Or.inr hw.2) (fun _ => h1) h
/-- what yields under S0, taken first -/
theorem until_take0 {i : Nat} {oi : Oper} {v : Value} {f : Nat} {l : Array Bool} {a : Act} {w : World} (hi : ops[i]? = some oi) (hs : Region.noSelect ops = true) (hf : Region.free md ops l i = true) (hr : (Region.ready md ops l).contains i = true)
    (hw : (i != t) = true) (hQ : ∀ c a w, Q (.panic c) (a.put oi.dst v) w → Q (.panic c) a w) (hy : YieldsIf P ops S0 oi v a) (h0 : S0 w) (h1 : l.getD t true = false → S w)
    (h : wpUntil P md ops Q S S0 t f (l.setIfInBounds i true) (a.put oi.dst v) w) : wpUntil P md ops Q S S0 t (f + 1) l a w :=
  until_first hi (Region.noSelect_spec hs) hQ (by simpa using hw) (Or.inl rfl) f l a w (Region.free_spec hi hf) (by simpa using hr) hy h0 (Or.inl rfl) h1 h
/-- the one that may come up -/
theorem until_step {i : Nat} {o : Oper} {f : Nat} {l : Array Bool} {a : Act} {w : World} (hr : Region.ready md ops l = [i]) (ho : ops[i]? = some o)
    (h : ∀ K' : Act → World → Prop, Shut (∀ a w, S0 w → (i ≠ t → l.getD t true = false → S w) → wpUntil P md ops Q S S0 t f (l.setIfInBounds i true) a w → K' a w) → if Region.wanted o (yielded ops a.tmps) = true then Oper.wp P o a w K' Q else K' (a.put o.dst undef) w) : wpUntil P md ops Q S S0 t (f + 1) l a w := by
  refine ⟨fun h0 => (by rw [hr] at h0; cases h0), fun j hj => ?_⟩
  rw [hr] at hj
  obtain rfl := List.mem_singleton.1 hj
  exact wpOp_step ho (fun K' hK => h K' (fun a w k0 k1 k2 => hK a w ⟨⟨k0, k1⟩, k2⟩))
theorem until_done {l : Array Bool} {a : Act} {w : World} (hr : Region.ready md ops l = []) (h : Q .normal a w) : ∀ f, wpUntil P md ops Q S S0 t f l a w
  | 0 => ⟨hr, h⟩
  | _ + 1 => ⟨fun _ => h, by rw [hr]; simp⟩
end
end Go.Proofs.YteclajckkjocnaaGreatDoor
