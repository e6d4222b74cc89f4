/- A house by its cells; the walk over house.Name. Conditions: utf8's two tables and bytealg.MaxLen lie as the program's text lays them. -/
import Derived.Test.YtdlfbhbgemoelaaGreatDoorHouM
import Derived.Test.YtdlfbhbgemoelaaGreatDoorMaxL
import Derived.Test.YtdlfbhbgemoelaaGreatDoorAny
import Derived.Test.YtdlfbhbgemoelaaGreatDoorRight
import Derived.Test.YtdlfbhbgemoelaaGreatDoorHeadA
import Derived.Deep.QuietTactic
import Derived.BigQuiet
import Derived.Deep.RegionHeld3
import Derived.Deep.DeepCutAuto
namespace Go.Proofs.YtdlfbhbgemoelaaGreatDoor
open Go.RowKit Go.Shelf Go.Sort Go.Maps

/-- what the walks over names need of the program's variables -/
def HG (w : World) : Prop := Tabs w ∧ MaxL w
theorem HG.below {w w' : World} (h : HG w) (hb : Below w.heap.size w w') : HG w' := ⟨h.1.below hb, h.2.below hb⟩
def eno (m : Nat) : Value := .iface 55 (.int .i64 (m : Int))
/-- a house lies in a block -/
structure HouseS (N : Nat) (w : World) (H mb mw : Nat) (h : HouseC) : Prop where
  loH : N ≤ H
  lob : N ≤ mb
  low : N ≤ mw
  cells : w.heap[H]? = some (.cells #[.map (some mb), .map (some mw), .int .i64 h.next] 61 (0, 0))
  boxes : PM w mb h.L (fun x => (h.box x).blk)
  wants : WM w mw h.W
  ne : mb ≠ mw
  box : ∀ x ∈ h.L, N ≤ (h.box x).blk ∧ w.heap[(h.box x).blk]? = some (.cells #[.int .i64 (h.box x).valid, .int .i64 (h.box x).next, (h.box x).lv] 48 (0, 0))
  inj : ∀ x ∈ h.L, ∀ y ∈ h.L, (h.box x).blk = (h.box y).blk → x = y
  lenL : ∀ x ∈ h.L, x.length ≤ 60
  lenW : ∀ x ∈ h.W, x.length ≤ 60
  slc : ∀ x ∈ h.L, ∃ a n c, (h.box x).lv = .slice a n c
def hnameV (o : Option Bs) : Value := match o with
  | some n => .tuple #[.string ⟨n.toArray⟩, .nilIface]
  | none => .tuple #[.string ⟨#[]⟩, eno 1]

theorem hnameF_bad {s : Bs} (h : hokName s = false) : hnameF s = none := by unfold hnameF; rw [h]; rfl
theorem cut_prefix (s : Bs) (c : UInt8) : (Lib.cut s [c]).1 = s.take (Lib.cut s [c]).1.length := by
  unfold Lib.cut
  split
  · simp
  · simp
set_option maxRecDepth 100000 in
set_option maxHeartbeats 4000000 in
theorem hname_any (s : Bs) (w : World) (hs : s.length ≤ 1000000) (hG : HG w) :
    Calls Tryz.prog 8 #[.string ⟨s.toArray⟩] w fun e w' => e = .returned (hnameV (hnameF s)) ∧ Below w.heap.size w w' := by
  have ts := text_size s
  have cR := fun W (h : HG W) => utfRight_any ⟨s.toArray⟩ W (by rw [ts]; exact hs) h.1
  have cP : ∀ W, Calls Tryz.prog 13 #[.string ⟨s.toArray⟩, .string ⟨#[47]⟩] W fun e w' => e = .returned (.bool (Lib.hasPrefix s [47])) ∧ W = w' := fun W => (Tryz.strings_HasPrefix ⟨s.toArray⟩ ⟨#[47]⟩ W).mono fun _ _ ⟨h1, h2⟩ => ⟨h1, h2.symm⟩
  have cS : ∀ W, Calls Tryz.prog 27 #[.string ⟨s.toArray⟩, .string ⟨#[47]⟩] W fun e w' => e = .returned (.bool (Lib.hasSuffix s [47])) ∧ W = w' := fun W => (Tryz.strings_HasSuffix ⟨s.toArray⟩ ⟨#[47]⟩ W (by rw [ts]; omega)).mono fun _ _ ⟨h1, h2⟩ => ⟨h1, h2.symm⟩
  have cC : ∀ W, HG W → Calls Tryz.prog 28 #[.string ⟨s.toArray⟩, .string ⟨#[47, 47]⟩] W fun e w' => e = .returned (.bool (Lib.contains s [47, 47])) ∧ W = w' := fun W hW => by
    obtain ⟨m, hm⟩ := hW.2
    exact (Tryz.strings_Contains ⟨s.toArray⟩ ⟨#[47, 47]⟩ m W (by rw [ts]; omega) hm).mono fun _ _ ⟨h1, h2⟩ => ⟨h1, h2.symm⟩
  have cA : ∀ W, Calls Tryz.prog 29 #[.string ⟨s.toArray⟩, .string ⟨#[37, 42]⟩] W fun e w' => e = .returned (.bool (Lib.containsAny s [37, 42])) ∧ Below W.heap.size W w' := fun W => containsAny_any ⟨s.toArray⟩ ⟨#[37, 42]⟩ W (by decide) (by decide) (by rw [ts]; omega) (by decide)
  have cK := fun W (h : HG W) => cut_l s 47 W (by omega) h.2
  have hcl : (hfirstN s).length ≤ s.length := by unfold hfirstN; rw [cut_prefix]; simp; omega
  have cGr := fun W => great_any ⟨(hfirstN s).toArray⟩ W (by rw [text_size]; omega)
  have hR : (⟨s.toArray⟩ : ByteArray).data.toList = s := rfl
  rw [hR] at cR
  obtain ⟨b1, e1⟩ : ∃ b, rightL s = b := ⟨_, rfl⟩
  obtain ⟨b2, e2⟩ : ∃ b, Lib.hasPrefix s [47] = b := ⟨_, rfl⟩
  obtain ⟨b3, e3⟩ : ∃ b, Lib.hasSuffix s [47] = b := ⟨_, rfl⟩
  obtain ⟨b4, e4⟩ : ∃ b, Lib.contains s [47, 47] = b := ⟨_, rfl⟩
  obtain ⟨b5, e5⟩ : ∃ b, Lib.containsAny s [37, 42] = b := ⟨_, rfl⟩
  have hok : hokName s = (b1 && (!b2 && (!b3 && (!b4 && !b5)))) := by unfold hokName; rw [e1, e2, e3, e4, e5]
  rw [e1] at cR
  rw [e2] at cP
  rw [e3] at cS
  rw [e4] at cC
  rw [e5] at cA
  clear e1 e2 e3 e4 e5 hR
  cases b1 with
  | false =>
    rw [hnameF_bad hok]
    clear hok
    go_enter Tryz.func8, Tryz.ntmps8
    go_wp2_with (go_at_call 26; ((with_reducible refine (cR _ hG).mono ?_); rintro e w1 ⟨rfl, hb1⟩))
    go_ret2
    exact ⟨rfl, hb1⟩
  | true =>
  cases b2 with
  | true =>
    rw [hnameF_bad hok]
    clear hok
    go_enter Tryz.func8, Tryz.ntmps8
    go_wp2_with (first
      | (go_at_call 26; ((with_reducible refine (cR _ hG).mono ?_); rintro e w1 ⟨rfl, hb1⟩))
      | (go_at_call 13; ((with_reducible refine (cP _).mono ?_); rintro e w2 ⟨rfl, rfl⟩)))
    go_ret2
    exact ⟨rfl, hb1⟩
  | false =>
  cases b3 with
  | true =>
    rw [hnameF_bad hok]
    clear hok
    go_enter Tryz.func8, Tryz.ntmps8
    go_wp2_with (first
      | (go_at_call 26; ((with_reducible refine (cR _ hG).mono ?_); rintro e w1 ⟨rfl, hb1⟩))
      | (go_at_call 13; ((with_reducible refine (cP _).mono ?_); rintro e w2 ⟨rfl, rfl⟩))
      | (go_at_call 27; ((with_reducible refine (cS _).mono ?_); rintro e w3 ⟨rfl, rfl⟩)))
    go_ret2
    exact ⟨rfl, hb1⟩
  | false =>
  cases b4 with
  | true =>
    rw [hnameF_bad hok]
    clear hok
    go_enter Tryz.func8, Tryz.ntmps8
    go_wp2_with (first
      | (go_at_call 26; ((with_reducible refine (cR _ hG).mono ?_); rintro e w1 ⟨rfl, hb1⟩))
      | (go_at_call 13; ((with_reducible refine (cP _).mono ?_); rintro e w2 ⟨rfl, rfl⟩))
      | (go_at_call 27; ((with_reducible refine (cS _).mono ?_); rintro e w3 ⟨rfl, rfl⟩))
      | (go_at_call 28; ((with_reducible refine (cC _ (hG.below hb1)).mono ?_); rintro e w4 ⟨rfl, rfl⟩)))
    go_ret2
    exact ⟨rfl, hb1⟩
  | false =>
  cases b5 with
  | true =>
    rw [hnameF_bad hok]
    clear hok
    go_enter Tryz.func8, Tryz.ntmps8
    go_wp2_with (first
      | (go_at_call 26; ((with_reducible refine (cR _ hG).mono ?_); rintro e w1 ⟨rfl, hb1⟩))
      | (go_at_call 13; ((with_reducible refine (cP _).mono ?_); rintro e w2 ⟨rfl, rfl⟩))
      | (go_at_call 27; ((with_reducible refine (cS _).mono ?_); rintro e w3 ⟨rfl, rfl⟩))
      | (go_at_call 28; ((with_reducible refine (cC _ (hG.below hb1)).mono ?_); rintro e w4 ⟨rfl, rfl⟩))
      | (go_at_call 29; ((with_reducible refine (cA _).mono ?_); rintro e w5 ⟨rfl, hb5⟩)))
    go_ret2
    exact ⟨rfl, hb1.trans (hb5.mono hb1.size)⟩
  | false =>
    have hn : hnameF s = if greatL (hfirstN s) = inboxB then some (inboxB ++ s.drop (hfirstN s).length) else some s := by unfold hnameF; rw [hok]; rfl
    clear hok
    have hfs : (Lib.cut s [47]).1 = hfirstN s := rfl
    rw [hfs] at cK
    have hG2 : (⟨(hfirstN s).toArray⟩ : ByteArray).data.toList = hfirstN s := rfl
    rw [hG2] at cGr
    clear hG2 hfs
    obtain ⟨F, hF⟩ : ∃ F, hfirstN s = F := ⟨_, rfl⟩
    rw [hF] at hn cK cGr hcl
    clear hF
    obtain ⟨G, hGe⟩ : ∃ G, greatL F = G := ⟨_, rfl⟩
    rw [hGe] at hn cGr
    clear hGe
    have hpt : (⟨s.toArray⟩ : ByteArray).extract F.length s.length = ⟨(s.drop F.length).toArray⟩ := by rw [text_part, List.take_of_length_le (by simp)]
    have hct : (⟨#[73, 78, 66, 79, 88]⟩ : ByteArray) ++ ⟨(s.drop F.length).toArray⟩ = ⟨(inboxB ++ s.drop F.length).toArray⟩ := text_cat inboxB _
    have tF := text_size F
    have tD := text_size (s.drop F.length)
    have hdl : (s.drop F.length).length ≤ 1000000 := by simp; omega
    have hFz : (F.length : Int) ≤ (s.length : Int) := by omega
    by_cases hg : G = inboxB
    · subst hg
      rw [if_pos rfl] at hn
      rw [hn]
      clear hn
      have hl : inboxB.toArray = #[73, 78, 66, 79, 88] := rfl
      rw [hl] at cGr
      clear hl
      go_enter Tryz.func8, Tryz.ntmps8
      go_wp2_with (first
        | (go_at_call 26; ((with_reducible refine (cR _ hG).mono ?_); rintro e w1 ⟨rfl, hb1⟩))
        | (go_at_call 13; ((with_reducible refine (cP _).mono ?_); rintro e w2 ⟨rfl, rfl⟩))
        | (go_at_call 27; ((with_reducible refine (cS _).mono ?_); rintro e w3 ⟨rfl, rfl⟩))
        | (go_at_call 28; ((with_reducible refine (cC _ (hG.below hb1)).mono ?_); rintro e w4 ⟨rfl, rfl⟩))
        | (go_at_call 29; ((with_reducible refine (cA _).mono ?_); rintro e w5 ⟨rfl, hb5⟩; have hb5 := hb1.trans (hb5.mono hb1.size)))
        | (go_at_call 30; ((with_reducible refine (cK _ (hG.below hb5)).mono ?_); rintro e w6 ⟨rfl, hb6⟩; have hb6 := hb5.trans (hb6.mono hb5.size)))
        | (go_at_call 31; ((with_reducible refine (cGr _).mono ?_); rintro e w7 ⟨rfl, hb7⟩; have hb7 := hb6.trans (hb7.mono hb6.size))))
      go_ret2
      exact ⟨rfl, hb7⟩
    · rw [if_neg hg] at hn
      rw [hn]
      clear hn
      have hgb : (G == [73, 78, 66, 79, 88]) = false := by rw [beq_eq_false_iff_ne]; exact hg
      go_enter Tryz.func8, Tryz.ntmps8
      go_wp2_with (first
        | (go_at_call 26; ((with_reducible refine (cR _ hG).mono ?_); rintro e w1 ⟨rfl, hb1⟩))
        | (go_at_call 13; ((with_reducible refine (cP _).mono ?_); rintro e w2 ⟨rfl, rfl⟩))
        | (go_at_call 27; ((with_reducible refine (cS _).mono ?_); rintro e w3 ⟨rfl, rfl⟩))
        | (go_at_call 28; ((with_reducible refine (cC _ (hG.below hb1)).mono ?_); rintro e w4 ⟨rfl, rfl⟩))
        | (go_at_call 29; ((with_reducible refine (cA _).mono ?_); rintro e w5 ⟨rfl, hb5⟩; have hb5 := hb1.trans (hb5.mono hb1.size)))
        | (go_at_call 30; ((with_reducible refine (cK _ (hG.below hb5)).mono ?_); rintro e w6 ⟨rfl, hb6⟩; have hb6 := hb5.trans (hb6.mono hb5.size)))
        | (go_at_call 31; ((with_reducible refine (cGr _).mono ?_); rintro e w7 ⟨rfl, hb7⟩; have hb7 := hb6.trans (hb7.mono hb6.size))))
      go_ret2
      exact ⟨rfl, hb7⟩
end Go.Proofs.YtdlfbhbgemoelaaGreatDoor
