/- The walk over the fact that a command with bytes is read. Conditions: strconv's table of powers and its two errors, and bytealg.MaxLen, lie as the program's text lays them. -/
import Derived.Test.YtbfndlmihijcgaaGreatDoorParseI
namespace Go.Proofs.YtbfndlmihijcgaaGreatDoor
open Go.RowKit Go.Shelf Go.Sort
set_option linter.unusedSimpArgs false

theorem wired_next : nextF (wiredL ++ [114, 101, 115, 116]) ((wiredL ++ [114, 101, 115, 116]).length + 1) 0 0 = (29, 1, false) := by kernel_rfl
theorem readsA_at {W : World} {ok : Nat → Prop} {a : Option Addr} {n c : Nat} {l : List ArgP} (h : ReadsA W ok (.slice a n c) l) {j : Nat} {t : ArgP} (hj : l[j]? = some t) : ∃ g off va vc, a = some ⟨g, off, none⟩ ∧ n = l.length ∧ l.length ≤ c ∧ c ≤ 9223372036854775807 ∧ g < W.heap.size ∧ W.cell? ⟨g, off + j * 3, none⟩ = some (.int .i64 (t.kind : Int)) ∧ W.cell? ⟨g, off + j * 3 + 1, none⟩ = some (.string ⟨t.text.toArray⟩) ∧ W.cell? ⟨g, off + j * 3 + 2, none⟩ = some (.slice va t.list.length vc) ∧ ReadsA W ok (.slice va t.list.length vc) t.list := by
  cases h with
  | empty => simp at hj
  | row g off cap l vs h1 h2 h5 h6 h3 h4 =>
    have hr := h4 j t hj
    obtain ⟨va, vc, hv⟩ := readsA_slice hr
    rw [hv] at hr
    have hc := h3 j t hj
    rw [hv] at hc
    exact ⟨g, off, va, vc, rfl, rfl, h5, h6, h2, hc 0 _ rfl, hc 1 _ rfl, hc 2 _ rfl, hr⟩
set_option maxRecDepth 100000 in
set_option maxHeartbeats 8000000 in
theorem wired_any (w : World) (hG : WireG w) : Calls Tryz.prog 4 #[] w fun e w' => e = .returned (.bool true) ∧ Below w.heap.size w w' := by
  have cN := fun W hW => next_any (wiredL ++ [114, 101, 115, 116]) W (by decide) hW
  rw [wired_next] at cN
  have cP := fun W hW => parse_any wiredL W (by decide) hW
  have hHG := Lib.hid (fun W (h : Below w.heap.size w W) => hG.below h)
  have y := Below.refl w.heap.size w
  have cP1 : ∀ W, WireG W → Calls Tryz.prog 5 #[.string ⟨#[97, 49, 32, 108, 111, 103, 105, 110, 32, 123, 51, 125, 13, 10, 97, 34, 98, 32, 40, 120, 32, 34, 121, 32, 122, 34, 41, 13, 10]⟩] W fun e w' => ∃ va vc, e = .returned (.tuple #[.agg #[.string ⟨#[97, 49]⟩, .string ⟨#[76, 79, 71, 73, 78]⟩, .slice va 2 vc], .nilIface]) ∧ ReadsA w' (fun j => W.heap.size ≤ j) (.slice va 2 vc) [.mk 2 [97, 34, 98] [], .mk 3 [] [.mk 1 [120] [], .mk 2 [121, 32, 122] []]] ∧ Below W.heap.size W w' := fun W hW => (cP W hW).mono fun e w' h => by
    unfold CmdR at h
    rw [wired_parse] at h
    obtain ⟨v, h1, h2, h3⟩ := h
    obtain ⟨va, vc, rfl⟩ := readsA_slice h2
    exact ⟨va, vc, h1, h2, h3⟩
  have cN1 : ∀ W, WireG W → Calls Tryz.prog 8 #[.string ((⟨#[97, 49, 32, 108, 111, 103, 105, 110, 32, 123, 51, 125, 13, 10, 97, 34, 98, 32, 40, 120, 32, 34, 121, 32, 122, 34, 41, 13, 10]⟩ : ByteArray) ++ ⟨#[114, 101, 115, 116]⟩)] W fun e w' => e = .returned (.tuple #[.int .i64 29, .int .i64 1, .nilIface]) ∧ Below W.heap.size W w' := fun W hW => cN W hW
  clear cP cN
  go_enter Tryz.func4, Tryz.ntmps4
  go_upto_region 6 with (first
    | (go_at_call 8; go_loud (((with_reducible refine (cN1 _ hG).mono ?_); rintro e w1 ⟨rfl, h1⟩; have y1 := y.trans h1; have hG1 := hHG.out _ y1)))
    | (go_at_call 5; go_loud (((with_reducible refine (cP1 _ hG1).mono ?_); rintro e w2 ⟨va, vc, rfl, hr, h2⟩; have y2 := y1.trans (h2.mono y1.size)))))
  obtain ⟨g, off, v0, c0, rfl, -, -, hc2, hg, x0, x1, x2, -⟩ := readsA_at hr (j := 0) rfl
  obtain ⟨g', off', v1, c1, e1, -, hc3, -, -, z0, z1, z2, -⟩ := readsA_at hr (j := 1) rfl
  cases e1
  clear hr x0 z0 z1
  have hc4 : 2 ≤ vc := hc3
  clear hc3
  have t1 : w2.cell? ⟨g, off + 1, none⟩ = some (.string ⟨#[97, 34, 98]⟩) := x1
  have t2 : w2.cell? ⟨g, off + 3 + 2, none⟩ = some (.slice v1 2 c1) := z2
  have t3 : w2.cell? ⟨g, off + 5, none⟩ = some (.slice v1 2 c1) := z2
  clear x1 x2 z2
  have hnm := alloc_size w2 (.cells #[.string ⟨#[97, 49]⟩, .string ⟨#[76, 79, 71, 73, 78]⟩, .slice (some ⟨g, off, none⟩) 2 vc] 25)
  go_wp2_with fail
  go_ret
  exact ⟨rfl, y2.alloc y2.size _⟩
end Go.Proofs.YtbfndlmihijcgaaGreatDoor
