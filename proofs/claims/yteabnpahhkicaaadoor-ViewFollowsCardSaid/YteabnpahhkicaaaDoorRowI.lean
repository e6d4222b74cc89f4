/- The walks over slices.Clone and slices.Delete at int. Condition: none. -/
import Derived.Test.YteabnpahhkicaaaDoorOwnE
import Derived.Test.YteabnpahhkicaaaDoorFlagA
namespace Go.Proofs.YteabnpahhkicaaaDoor
open Go.RowKit Go.Shelf Go.Sort

theorem infoRowI : (Tryd.prog.info? 3).map (fun i => (i.zero, i.size, i.bytes)) = some (some (.int .i64 0), 1, 8) := by kernel_rfl
set_option maxRecDepth 100000 in
set_option maxHeartbeats 2000000 in
theorem cloneRowI (v : Value) (n B : Nat) (xs : List Int) (w : World) (hv : w.ownsRow B 3 1 v n (xs.map (Value.int .i64))) (hl : n ≤ 1000000) :
    Calls Tryd.prog 21 #[v] w fun e w' => ∃ v', e = .returned v' ∧ w'.ownsRow w.heap.size 3 1 v' n (xs.map (Value.int .i64)) ∧ Below w.heap.size w w' := by
  obtain ⟨i0, hi, hz0, hz1, hz2⟩ := info_parts infoRowI
  have qE : ∀ (w : World) (a : Option Addr) (n c n' c' : Nat), (binOp .eql 46 (.slice a n c) (.slice none n' c')).run Tryd.prog w = .ok (.bool a.isNone) w := fun w a n c n' c' => Lib.run_eql_slice_nil w _ _ a n c n' c' Tryd.underlying46
  have hlen : (xs.map (Value.int .i64)).length = n * 1 := hv.1
  rcases hv.2 with ⟨rfl, rfl⟩ | ⟨g, cap, cur, rfl, hg, hh, h3, h4, h5, h6⟩
  · obtain rfl : xs = [] := List.eq_nil_of_length_eq_zero (by simpa using hlen)
    clear hv hlen
    go_enter Tryd.func21, Tryd.ntmps21
    go_wp2_with fail
    go_ret
    exact ⟨_, rfl, World.ownsRow_nil _ _ _ _, Below.refl _ _⟩
  · have H1 : Hid (∀ u ∈ xs.map (Value.int .i64), u.oneCell' = true) := fun u hu => by
      obtain ⟨x, _, rfl⟩ := List.mem_map.1 hu
      rfl
    have HL := Lib.hid hlen
    have HC : Hid (∀ j u, (xs.map (Value.int .i64))[j]? = some u → (w.alloc (.cells #[] 3)).cell? ((⟨g, 0, none⟩ : Addr).add j) = some u) := fun j u hj => by
      have hlt : j < n * 1 := by
        have := (List.getElem?_eq_some_iff.1 hj).1
        rw [hlen] at this
        exact this
      rw [add_plE, Nat.zero_add]
      refine (((Below.refl w.heap.size w).alloc (Nat.le_refl _) _).cell (p := ⟨g, j, none⟩) (Array.getElem?_eq_some_iff.1 hh).1).trans ?_
      rw [hv.cellAt j hlt]
      exact hj
    clear hv hlen hh h5 h6
    go_enter Tryd.func21, Tryd.ntmps21
    go_wp2_with (at_builtin; go_must (refine wpList_append_own _ rfl _ _ 46 rfl w.heap.size 3 i0 _ 1 8 Tryd.underlying46 hi hz0 hz1 hz2 rfl (by decide) _ _ _ rfl (World.ownsRow_made w #[] 0 (Nat.le_refl _) (Nat.zero_le _) rfl) ⟨g, 0, none⟩ n cap (xs.map (Value.int .i64)) rfl HL.out HC.out H1.out ?c4 ?c5 ?c6 ?_))
    case c4 => unfold maxLen; omega
    case c5 => omega
    case c6 => simp
    intro v' w1 hown hgrow _
    go_wp2_with fail
    go_ret
    exact ⟨v', rfl, by simpa using hown, ((Below.refl _ w).alloc (Nat.le_refl _) _).grown hgrow (by simp) (by intro k hk; simp [Value.ownBlock] at hk; omega)⟩

theorem zeroRowI (w : World) : (zeroValue 3).run Tryd.prog w = .ok (.int .i64 0) w := by kernel_rfl
set_option maxRecDepth 100000 in
set_option maxHeartbeats 4000000 in
theorem delArrRowI (blk off cap i : Nat) (d : Array Int) (w : World) (hH : Holds (Value.int .i64) w blk off d) (hcap : d.size ≤ cap) (hm : cap ≤ 9223372036854775807) (hlt : i < d.size) :
    Calls Tryd.prog 20 #[.slice (some ⟨blk, off, none⟩) d.size cap, .int .i64 (i : Int), .int .i64 ((i : Int) + 1)] w fun e w' => e = .returned (.slice (some ⟨blk, off, none⟩) (i + (d.size - (i + 1))) cap) ∧ ∃ q, w' = putRow (Value.int .i64) (Sort.ahead w q) blk off (d.toList.take i ++ d.toList.drop (i + 1) ++ List.replicate 1 (0 : Int)).toArray := by
  obtain ⟨i0, hi0, hz0, hz1, hz2⟩ := info_parts infoRowI
  obtain ⟨j, hj⟩ : ∃ j, j = i + 1 := ⟨_, rfl⟩
  have hji : (i : Int) + 1 = (j : Int) := by omega
  rw [hji, ← hj]
  have hij : i < j := by omega
  have hjd : j ≤ d.size := by omega
  have hj1 : j - i = 1 := by omega
  have HJ := Lib.hid hj1
  obtain ⟨news, hnews⟩ : ∃ news, news = (d.toList.drop j).map (Value.int .i64) := ⟨_, rfl⟩
  have hlen : news.length = d.size - j := by rw [hnews]; simp
  have hget : ∀ t, t < d.size - j → news[t]? = some ((Value.int .i64) d[j + t]!) := by
    intro t ht
    rw [hnews, List.getElem?_map, List.getElem?_drop, Array.getElem?_toList, getElem!_pos d (j + t) (by omega), Array.getElem?_eq_getElem (by omega)]
    rfl
  obtain ⟨A, hA, hsrc⟩ : ∃ A : Addr, (if cap = j then some (⟨blk, off, none⟩ : Addr) else some ⟨blk, off + j, none⟩) = some A ∧ Hid (∀ t u, news[t]? = some u → w.drew.cell? (A.add t) = some u) := by
    by_cases h : cap = j
    · refine ⟨⟨blk, off, none⟩, by simp [h], fun t u hu => ?_⟩
      have h0 : news.length = 0 := by rw [hlen]; omega
      rw [List.length_eq_zero_iff.1 h0] at hu
      simp at hu
    · refine ⟨⟨blk, off + j, none⟩, by simp [h], fun t u hu => ?_⟩
      have ht : t < d.size - j := by
        have := (List.getElem?_eq_some_iff.1 hu).1
        rwa [hlen] at this
      rw [hget t ht] at hu
      rw [add_plE, show off + j + t = off + (j + t) by omega]
      exact (hH (j + t) (by omega)).1.trans hu
  have s1 : Hid (news.length = (d.size - j) * 1) := by rw [Nat.mul_one]; exact hlen
  have s2 : Hid (∀ u ∈ news, u.oneCell' = true) := by
    intro u hu
    rw [hnews] at hu
    obtain ⟨x, _, rfl⟩ := List.mem_map.1 hu
    rfl
  have s3 : Hid (∀ t, t < news.length → (w.drew.cell? ⟨blk, off + i * 1 + t, none⟩).isSome = true ∧ w.drew.frozen? ⟨blk, off + i * 1 + t, none⟩ = false) := by
    intro t ht
    rw [hlen] at ht
    rw [Nat.mul_one, Nat.add_assoc]
    exact ⟨by show (w.cell? _).isSome = true; rw [(hH (i + t) (by omega)).1]; rfl, (hH (i + t) (by omega)).2⟩
  obtain ⟨W1, hW1⟩ : ∃ W1, W1 = w.drew.setCells blk (off + i * 1) news := ⟨_, rfl⟩
  have hW1' : W1 = putRow (Value.int .i64) (Sort.ahead w 1) blk off (Lib.lay d i (d.toList.drop j)) := by
    rw [hW1, hnews, Nat.mul_one, ← Lib.putRow_setCells (Value.int .i64) (Sort.ahead w 1) blk off _ d i (by simp; omega), putRow_self (Value.int .i64) (Sort.ahead w 1) blk off d (holds_ahead (Value.int .i64) w 1 blk off d hH)]
    rfl
  have hH1 : Holds (Value.int .i64) W1 blk off (Lib.lay d i (d.toList.drop j)) := by rw [hW1']; exact holds_putRow (Value.int .i64) _ blk off d _ (holds_ahead (Value.int .i64) w 1 blk off d hH) (Lib.lay_size _ _ _)
  have hcl : ∀ ty, (Builtin.clear_ #[46] ty #[.slice (some ⟨blk, off + (i + (d.size - j)), none⟩) (d.size - (i + (d.size - j))) (cap - (i + (d.size - j)))]).run Tryd.prog W1 = .ok (.tuple #[]) (W1.setCells blk (off + (i + (d.size - j))) (List.replicate (d.size - (i + (d.size - j))) ((Value.int .i64) (0 : Int)))) :=
    fun ty => Lib.run_clear_slice W1 _ _ ty _ Tryd.underlying46 zeroRowI rfl rfl blk (off + (i + (d.size - j))) _ _ (by omega) (fun t ht => by rw [show off + (i + (d.size - j)) + t = off + (i + (d.size - j) + t) by omega, (hH1 _ (by rw [Lib.lay_size]; omega)).1]; rfl) (fun t ht => by rw [show off + (i + (d.size - j)) + t = off + (i + (d.size - j) + t) by omega]; exact (hH1 _ (by rw [Lib.lay_size]; omega)).2)
  have X : Hid (W1 = putRow (Value.int .i64) (Sort.ahead w 1) blk off (Lib.lay d i (d.toList.drop j))) := hW1'
  have hW : Hid (W1 = w.drew.setCells blk (off + i * 1) news) := hW1
  have hic : i ≤ cap := by omega
  have hjc : j ≤ cap := by omega
  clear hW1 hW1' hH1 hH hget hnews hlen hj hj1 hji
  go_enter Tryd.func20, Tryd.ntmps20
  go_wp2_with fail
  go_region_law (refine step_append_room rfl (.tmp 22) (.tmp 25) 46 rfl 3 i0 1 Tryd.underlying46 hi0 hz1 blk off i cap (by simp [Act.eval, Act.put]) A (d.size - j) (cap - j) news (by simp [Act.eval, Act.put]) s1.out hsrc.out s2.out (by omega) s3.out ?_; rw [← hW.out])
  go_wp2_with fail
  go_ret
  refine ⟨rfl, 1, ?_⟩
  have e1 : (j - i) = 1 := HJ.out
  rw [show List.replicate 1 (0 : Int) = List.replicate (j - i) (0 : Int) by rw [e1], ← Lib.delete_arr d i j (0 : Int) (by omega) hjd, ← Lib.putRow_setCells (Value.int .i64) _ blk off _ _ (i + (d.size - j)) (by rw [Lib.lay_size]; simp; omega), ← X.out, List.map_replicate, show d.size - (i + (d.size - j)) = j - i by omega]

theorem delRowI (g cap B n i : Nat) (xs : List Int) (w : World) (hv : w.ownsRow B 3 1 (.slice (some ⟨g, 0, none⟩) n cap) n (xs.map (Value.int .i64))) (hi : i < n) :
    Calls Tryd.prog 20 #[.slice (some ⟨g, 0, none⟩) n cap, .int .i64 (i : Int), .int .i64 ((i : Int) + 1)] w fun e w' => e = .returned (.slice (some ⟨g, 0, none⟩) (n - 1) cap) ∧ w'.ownsRow B 3 1 (.slice (some ⟨g, 0, none⟩) (n - 1) cap) (n - 1) ((xs.eraseIdx i).map (Value.int .i64)) ∧ w.grownBy w' (some g) := by
  have hlen : xs.length = n := by have := hv.1; simpa using this
  subst hlen
  rcases hv.2 with ⟨h, _⟩ | ⟨g', cap', cur, h, hbase, hb, h1, h2, h3, h4⟩
  · cases h
  · cases h
    have hH : Holds (Value.int .i64) w g 0 xs.toArray := holdsE (Value.int .i64) hb (by simpa using h4)
    have hc := delArrRowI g 0 cap i xs.toArray w hH (by simpa using h1) (by unfold maxLen at h2; omega) (by simpa using hi)
    simp only [List.size_toArray] at hc
    refine hc.mono ?_
    rintro e w' ⟨rfl, q, rfl⟩
    have e1 : i + (xs.length - (i + 1)) = xs.length - 1 := by omega
    rw [e1]
    have e2 : (xs.take i ++ xs.drop (i + 1) ++ List.replicate 1 (0 : Int)).length = xs.length := by simp; omega
    have ho := ownsE (Value.int .i64) (n := q) (m := xs.length - 1) (ts := xs.take i ++ xs.drop (i + 1) ++ List.replicate 1 (0 : Int)) hbase hb (by omega) h2 h3 (by omega)
    refine ⟨rfl, ?_, grownE (Value.int .i64) _⟩
    have e3 : (xs.take i ++ xs.drop (i + 1) ++ List.replicate 1 (0 : Int)).take (xs.length - 1) = xs.eraseIdx i := by
      rw [List.take_append_of_le_length (by simp; omega), List.take_of_length_le (by simp; omega), List.eraseIdx_eq_take_drop_succ]
    rw [e3] at ho
    exact ho
end Go.Proofs.YteabnpahhkicaaaDoor
