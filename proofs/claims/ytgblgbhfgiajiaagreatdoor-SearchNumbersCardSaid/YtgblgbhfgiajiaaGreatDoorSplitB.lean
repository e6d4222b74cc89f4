/- The walks over strings.SplitSeq (what it returns) and seq.number. Conditions: strconv's table of powers and its two errors lie as the program's text lays them. -/
import Derived.Test.YtgblgbhfgiajiaaGreatDoorSplitA
import Derived.Test.YtgblgbhfgiajiaaGreatDoorStrG
namespace Go.Proofs.YtgblgbhfgiajiaaGreatDoor
open Go.RowKit Go.Shelf Go.Sort
set_option linter.unusedSimpArgs false

/-- the world behind SplitSeq: three boxes -/
abbrev splitW (w : World) (S : Txt) : World := ((w.alloc (.cells #[.string ⟨S.toArray⟩] 9)).alloc (.cells #[.string ⟨#[44]⟩] 9)).alloc (.cells #[.int .i64 0] 3)
set_option maxRecDepth 100000 in
set_option maxHeartbeats 2000000 in
theorem splitSeq_any (S : Txt) (w : World) : Calls Tryz.prog 108 #[.string ⟨S.toArray⟩, .string ⟨#[44]⟩] w fun e w' => e = .returned (.func (.func 136) #[] #[.pointer (some ⟨w.heap.size + 1, 0, none⟩), .pointer (some ⟨w.heap.size, 0, none⟩), .pointer (some ⟨w.heap.size + 2, 0, none⟩)]) ∧ w' = splitW w S := by
  have c1 : Calls Tryz.prog 129 #[.string ⟨S.toArray⟩, .string ⟨#[44]⟩, .int .i64 0] w fun e w' => e = .returned (.func (.func 136) #[] #[.pointer (some ⟨w.heap.size + 1, 0, none⟩), .pointer (some ⟨w.heap.size, 0, none⟩), .pointer (some ⟨w.heap.size + 2, 0, none⟩)]) ∧ w' = splitW w S := by
    have hmf : ∀ (fn : Fn) (first cap : Array Value) (w : World), (Instr.makeFunc fn first cap).run Tryz.prog w = .ok (.func fn first cap) w := fun _ _ _ _ => rfl
    go_enter Tryz.func129, Tryz.ntmps129
    go_wp2_with fail
    go_ret
    exact ⟨rfl, rfl⟩
  go_enter Tryz.func108, Tryz.ntmps108
  go_wp2_with (go_at_call 129; go_loud (((with_reducible refine c1.mono ?_); rintro e w1 ⟨rfl, rfl⟩)))
  go_ret
  exact ⟨rfl, rfl⟩
theorem splitW_at (w : World) (S : Txt) (M : Nat) (h : ∃ m, w.cell? ⟨M, 0, none⟩ = some (.int .i64 m)) : SplitW w.heap.size M S (splitW w S) := by
  have s1 := alloc_size w (.cells #[.string ⟨S.toArray⟩] 9)
  have s2 := alloc_size (w.alloc (.cells #[.string ⟨S.toArray⟩] 9)) (.cells #[.string ⟨#[44]⟩] 9)
  have h1 := World.heap_alloc_new w (.cells #[.string ⟨S.toArray⟩] 9)
  have h2 := World.heap_alloc_new (w.alloc (.cells #[.string ⟨S.toArray⟩] 9)) (.cells #[.string ⟨#[44]⟩] 9)
  have h3 := World.heap_alloc_new ((w.alloc (.cells #[.string ⟨S.toArray⟩] 9)).alloc (.cells #[.string ⟨#[44]⟩] 9)) (.cells #[.int .i64 0] 3)
  rw [s1] at h2
  rw [s2, s1] at h3
  obtain ⟨m, hm⟩ := h
  exact ⟨alloc_same (alloc_same h1), alloc_same h2, h3, m, ((((Below.refl _ w).alloc (Nat.le_refl _) _).alloc (by rw [s1]; omega) _).alloc (by rw [s2, s1]; omega) _).cell (p := ⟨M, 0, none⟩) (World.block_lt_of_cell? _ _ hm) |>.trans hm⟩

/-- what number returns: some number (what it is matters where it is one), and whether it is one -/
def NumR (s : Txt) (w : World) (e : Ending) (w' : World) : Prop := ∃ v : Int, e = .returned (.tuple #[.int .i64 v, .bool (numS s).isSome]) ∧ (∀ x, numS s = some x → v = x) ∧ Below w.heap.size w w'
theorem NumR.yes {s : Txt} {v : Int} {w w' : World} {e : Ending} (h : numS s = some v) (he : e = .returned (.tuple #[.int .i64 v, .bool true])) (hb : Below w.heap.size w w') : NumR s w e w' := ⟨v, by rw [h]; exact he, (fun x hx => by rw [h] at hx; exact Option.some.inj hx), hb⟩
theorem NumR.no {s : Txt} {v : Int} {w w' : World} {e : Ending} (h : numS s = none) (he : e = .returned (.tuple #[.int .i64 v, .bool false])) (hb : Below w.heap.size w w') : NumR s w e w' := ⟨v, by rw [h]; exact he, (fun x hx => by rw [h] at hx; cases hx), hb⟩
set_option maxRecDepth 100000 in
set_option maxHeartbeats 4000000 in
theorem number_any (s : Txt) (w : World) (hs : s.length ≤ 2000000) (hG : StrG w) :
    Calls Tryz.prog 109 #[.string ⟨s.toArray⟩] w (NumR s w) := by
  by_cases h42 : s = [42]
  · subst h42
    have hb : ((⟨[42].toArray⟩ : ByteArray) == ⟨#[42]⟩) = true := by decide
    go_enter Tryz.func109, Tryz.ntmps109
    go_wp2_with fail
    go_ret2
    exact NumR.yes rfl rfl (Below.refl _ _)
  have hsb : (s == [42]) = false := by simpa using h42
  have hn : numS s = match Lib.atoiAll s with | .ok v => oneF s v | _ => none := by unfold numS; rw [if_neg h42]; rfl
  cases ha : Lib.atoiAll s with
  | ok v =>
    rw [ha] at hn
    dsimp only at hn
    have cA := atoi_yes s v w ha hs
    unfold oneF at hn
    clear ha h42
    by_cases h1 : 1 ≤ v
    · by_cases h2 : v ≤ 2147483647
      · have cI := fun W hW => itoa_any v W (by omega) (by omega) hW
        obtain ⟨D, hD⟩ : ∃ D, Lib.itoa v = D := ⟨_, rfl⟩
        rw [hD] at cI hn
        by_cases h3 : D = s
        · subst h3
          have HN : Hid (numS D = some v) := Lib.hid (by rw [hn, if_pos ⟨h1, h2, rfl⟩])
          clear hn hD
          go_enter Tryz.func109, Tryz.ntmps109
          go_wp2_with (first
            | (go_at_call 81; go_loud (((with_reducible refine cA.mono ?_); rintro e w1 ⟨rfl, y1⟩; have cI1 := cI w1 (hG.below y1))))
            | (go_at_call 11; go_loud (((with_reducible refine cI1.mono ?_); rintro e w2 ⟨rfl, y2⟩))))
          go_ret2
          exact NumR.yes HN.out rfl (y1.trans (y2.mono y1.size))
        · have hDs : (D == s) = false := by simpa using h3
          have HN : Hid (numS s = none) := Lib.hid (by rw [hn, if_neg (fun h => h3 h.2.2)])
          clear hn hD h3
          go_enter Tryz.func109, Tryz.ntmps109
          go_wp2_with (first
            | (go_at_call 81; go_loud (((with_reducible refine cA.mono ?_); rintro e w1 ⟨rfl, y1⟩; have cI1 := cI w1 (hG.below y1))))
            | (go_at_call 11; go_loud (((with_reducible refine cI1.mono ?_); rintro e w2 ⟨rfl, y2⟩))))
          go_ret2
          exact NumR.no HN.out rfl (y1.trans (y2.mono y1.size))
      · have HN : Hid (numS s = none) := Lib.hid (by rw [hn, if_neg (fun h => h2 h.2.1)])
        clear hn
        go_enter Tryz.func109, Tryz.ntmps109
        go_wp2_with (go_at_call 81; go_loud (((with_reducible refine cA.mono ?_); rintro e w1 ⟨rfl, y1⟩)))
        go_ret2
        exact NumR.no HN.out rfl y1
    · have HN : Hid (numS s = none) := Lib.hid (by rw [hn, if_neg (fun h => h1 h.1)])
      clear hn
      go_enter Tryz.func109, Tryz.ntmps109
      go_wp2_with (go_at_call 81; go_loud (((with_reducible refine cA.mono ?_); rintro e w1 ⟨rfl, y1⟩)))
      go_ret2
      exact NumR.no HN.out rfl y1
  | _ =>
    rw [ha] at hn
    have HN : Hid (numS s = none) := Lib.hid hn
    have cA := atoi_no s w (fun v => by rw [ha]; intro h; cases h) hs hG
    clear hn ha h42
    go_enter Tryz.func109, Tryz.ntmps109
    go_wp2_with (go_at_call 81; go_loud (((with_reducible refine cA.mono ?_); rintro e w1 ⟨n, N, rfl, y1⟩)))
    go_ret2
    exact NumR.no HN.out rfl y1
end Go.Proofs.YtgblgbhfgiajiaaGreatDoor
