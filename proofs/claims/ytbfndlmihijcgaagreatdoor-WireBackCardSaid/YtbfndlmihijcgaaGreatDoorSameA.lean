/- The walk over letterboxkeep.sameArgs at parts that are alike: it returns true. No condition beyond those it names. -/
import Derived.Test.YtbfndlmihijcgaaGreatDoorParseA
import Derived.Test.YtbfndlmihijcgaaGreatDoorWireW
import Derived.Test.YtbfndlmihijcgaaGreatDoorPText
namespace Go.Proofs.YtbfndlmihijcgaaGreatDoor
open Go.RowKit Go.Shelf Go.Sort
set_option linter.unusedSimpArgs false

theorem readsA_drewN {W : World} {ok : Nat → Prop} {v : Value} {l : List ArgP} (h : ReadsA W ok v l) (q : Nat) : ReadsA (W.drewN q) ok v l := readsA_keep h (Nat.le_refl _) (fun _ _ _ => rfl) (fun _ h _ => h)
theorem readsA_len {W : World} {ok : Nat → Prop} {v : Value} {l : List ArgP} (h : ReadsA W ok v l) : l.length ≤ 9223372036854775807 := by
  cases h with
  | empty => decide
  | row g off cap l vs h1 h2 h5 h6 => omega
theorem size_list (x : ArgP) : sizeA x = 1 + sizeL x.list := by cases x; rw [sizeA]; rfl
set_option maxRecDepth 100000 in
set_option maxHeartbeats 8000000 in
theorem same_any : ∀ (n : Nat) (l : List ArgP) (va vb : Value) (w : World) (oka okb : Nat → Prop), sizeL l < n → ReadsA w oka va l → ReadsA w okb vb l →
      Calls Tryz.prog 7 #[va, vb] w fun e w' => e = .returned (.bool true) ∧ ∃ q, w' = w.drewN q := by
  intro n
  induction n with
  | zero => intro l va vb w oka okb hn ha hb; omega
  | succ n ih =>
    intro l va vb w oka okb hn ha hb
    obtain ⟨a, c, rfl⟩ := readsA_slice ha
    obtain ⟨b, d, rfl⟩ := readsA_slice hb
    have hlen := readsA_len ha
    have HRa := Lib.hid ha
    have HRb := Lib.hid hb
    have HIH := Lib.hid ih
    have HS : Hid (∀ x ∈ l, sizeL x.list < n) := Lib.hid (fun x hx => by have := size_mem l x hx; have := size_list x; omega)
    clear ha hb ih hn
    go_enter Tryz.func7, Tryz.ntmps7
    go_wp2_with fail
    go_loopg [5] l.length (fun g s5 wr => ∃ (k q : Nat), k + g = l.length ∧ s5 = .int .i64 (k : Int) ∧ ReadsA wr oka (.slice a l.length c) l ∧ ReadsA wr okb (.slice b l.length d) l ∧ Hid (wr = w.drewN q))
    case atStart => exact ⟨0, 0, by omega, rfl, HRa.out, HRb.out, Lib.hid rfl⟩
    case round =>
      obtain ⟨k, q, hk, rfl, ra, rb, HW⟩ := hrel
      have HA2 := Lib.hid ra
      have HB2 := Lib.hid rb
      clear ra rb HRa HRb
      by_cases hlt : k < l.length
      · obtain ⟨g', rfl⟩ : ∃ g', gk = g' + 1 := ⟨gk - 1, by omega⟩
        obtain ⟨x, hx⟩ : ∃ x, l[k]? = some x := ⟨l[k], List.getElem?_eq_getElem hlt⟩
        have hltz : (k : Int) < (l.length : Int) := by omega
        have hxm := List.mem_of_getElem? hx
        obtain ⟨b1, off1, v1, x1, rfl, -, hl1, hc1, hb1, c0, c1, c2, hr1⟩ := readsA_at HA2.out hx
        obtain ⟨b2, off2, v2, x2, rfl, -, hl2, hc2, hb2, e0, e1, e2, hr2⟩ := readsA_at HB2.out hx
        have cS := fun p => HIH.out x.list _ _ _ _ _ (HS.out x hxm) (readsA_drewN hr1 p) (readsA_drewN hr2 p)
        clear hr1 hr2 hx hxm
        go_wp2_with fail
        go_quiet ((go_at_call 7; exact Calls.quiet_of (cS _)))
        go_wp2_with fail
        go_roundg g'
        case measure => omega
        case rel => exact ⟨k + 1, q + nq, by omega, by go_num, readsA_drewN HA2.out _, readsA_drewN HB2.out _, Lib.hid (by rw [HW.out, World.drewN_drewN])⟩
      · go_wp2_with fail
        go_ret
        exact ⟨rfl, q, HW.out⟩
end Go.Proofs.YtbfndlmihijcgaaGreatDoor
