/- The walk over (*strings.byteStringReplacer).Replace. No condition beyond those it names. -/
import Derived.Test.YtclelkoefeiloaaGreatDoorRepD
import Derived.Test.YtclelkoefeiloaaGreatDoorPRep
import Derived.Test.YtclelkoefeiloaaGreatDoorByteAt
import Derived.Test.YtclelkoefeiloaaGreatDoorKept
import Derived.WalkLawsBesides
import Derived.Deep.QuietTactic
import Derived.BigQuiet
import Derived.Deep.DeepCutAuto
import Derived.Deep.CutBlock
import Derived.Test.YtclelkoefeiloaaGreatDoorBuf
namespace Go.Proofs.YtclelkoefeiloaaGreatDoor
open Go.RowKit Go.Shelf Go.Sort
set_option linter.unusedSimpArgs false

theorem owns_get {W : World} {base : Nat} {e : TypeId} {n : Nat} {v : Value} {xs : List Value} (h : W.ownsRow base e 1 v n xs) {j : Nat} {u : Value} (hj : xs[j]? = some u) : ∃ g cap, v = .slice (some ⟨g, 0, none⟩) n cap ∧ g < W.heap.size ∧ W.cell? ⟨g, j, none⟩ = some u := by
  obtain ⟨hl, h2⟩ := h
  have hlt := (List.getElem?_eq_some_iff.1 hj).1
  rcases h2 with ⟨rfl, rfl⟩ | ⟨g, cap, cur, rfl, a1, a2, a3, a4, a5, a6⟩
  · omega
  · refine ⟨g, cap, rfl, (Array.getElem?_eq_some_iff.1 a2).1, ?_⟩
    rw [Lib.cell_of_heap a2]
    have : (cur.toList.take (n * 1))[j]? = some u := by rw [a6]; exact hj
    rw [List.getElem?_take, if_pos (by omega)] at this
    simpa using this
set_option maxRecDepth 100000 in
set_option maxHeartbeats 8000000 in
theorem repl_any (ps : List (UInt8 × List UInt8)) (S : List UInt8) (base B : Nat) (w : World) (hR : RepC base B w ps (ps.map (·.1)).reverse) (hnd : (ps.map (·.1)).Nodup) (hp : ps.length ≤ 10) (hn : ∀ p ∈ ps, p.2.length ≤ 100) (hS : S.length ≤ 100000) :
    Calls Tryz.prog 167 #[.pointer (some ⟨B, 0, none⟩), .string ⟨S.toArray⟩] w fun e w' => e = .returned (.string ⟨(repF ps S).toArray⟩) ∧ Below w.heap.size w w' := by
  have hts := text_size S
  have hka := keys_all ps
  have hkn : ((ps.map (·.1)).reverse).Nodup := (List.Perm.nodup_iff (List.reverse_perm _)).2 hnd
  have hkl : ((ps.map (·.1)).reverse).length = ps.length := by simp
  generalize (ps.map (·.1)).reverse = ks at hR hka hkn hkl
  obtain ⟨tv, ht, ho⟩ := hR.list
  obtain ⟨ta, tc, rfl⟩ := owns_val ho
  have HL := Lib.hid (lenK_all hka S)
  have HA := Lib.hid (anyK_all hka S)
  have HK := Lib.hid hka
  have HO := Lib.hid ho
  have kl : (keyL ks).length = ks.length := by simp [keyL]
  rw [kl] at ht
  have kl2 : ks.length ≤ 10 := by omega
  clear hka kl hkl
  go_enter Tryz.func167, Tryz.ntmps167
  go_upto_if 26 with fail
  go_cut [5, 6] (fun s5 s6 wx => s5 = .int .i64 ((repF ps S).length : Int) ∧ s6 = .bool (anyF ps S) ∧ Below w.heap.size w wx)
  case first =>
    cases h8 : decide ((ks.length : Int) * 8 ≤ (S.length : Int)) with
    | true =>
      go_wp2_with fail
      go_loopg [5, 6, 8, 9, 32] ks.length (fun g s5 s6 s8 s9 s32 wr => ∃ k : Nat, k + g = ks.length ∧ s32 = .int .i64 (k : Int) ∧ s5 = .int .i64 (lenK ps (ks.take k) S) ∧ s6 = .bool (anyK (ks.take k) S) ∧ Below w.heap.size w wr)
      case atStart => exact ⟨0, by omega, rfl, by rw [List.take_zero, lenK_nil], by rw [List.take_zero, anyK_nil], Below.refl _ _⟩
      case round =>
        obtain ⟨k, hk, rfl, rfl, rfl, hbr⟩ := hrel
        have hRr := hR.keep hbr
        by_cases hlt : k < ks.length
        · obtain ⟨g', rfl⟩ : ∃ g', gk = g' + 1 := ⟨gk - 1, by omega⟩
          obtain ⟨c, hc⟩ : ∃ c, ks[k]? = some c := ⟨ks[k], List.getElem?_eq_getElem hlt⟩
          have htk : ks.take (k + 1) = ks.take k ++ [c] := by rw [List.take_add_one, hc]; rfl
          have hnk : c ∉ ks.take k := by
            intro hm
            obtain ⟨j, hj, e⟩ := List.getElem_of_mem hm
            rw [List.getElem_take] at e
            have hjk : j < k := by rw [List.length_take] at hj; omega
            rw [List.getElem?_eq_getElem hlt] at hc
            have := (List.getElem_inj hkn).1 (e.trans (Option.some.inj hc).symm)
            omega
          obtain ⟨x, hx⟩ : ∃ x, ps.lookup c = some x := by
            have h1 := HK.out c
            rw [show ks.contains c = true by rw [List.contains_iff_mem]; exact List.mem_of_getElem? hc] at h1
            exact Option.isSome_iff_exists.1 h1.symm
          have hxl : x.length ≤ 100 := hn _ (look_mem hx)
          have lb0 := lenK_bound hn (ks.take k) S
          have lb1 := lenK_bound hn (ks.take (k + 1)) S
          obtain ⟨g, cap, e1, hg, cg⟩ := owns_get HO.out (j := k) (u := .string ⟨#[c]⟩) (by simp [keyL, hc, encStr])
          cases e1
          have cg := (hbr.cell (p := ⟨g, k, none⟩) hg).trans cg
          have hL1 := lenK_snoc ps (ks.take k) c S hnk
          have hA1 := anyK_snoc (ks.take k) c S
          rw [← htk, hx] at hL1
          rw [← htk] at hA1
          have cC := Tryz.strings_Count_one ⟨S.toArray⟩ c wr
          rw [show Lib.countByte (⟨S.toArray⟩ : ByteArray).data.toList c = S.count c from rfl] at cC
          have hcl : S.count c ≤ S.length := List.count_le_length
          obtain ⟨v, hv, hvn⟩ := hRr.val c
          rw [hx] at hvn
          obtain ⟨gx, cx, e2, _⟩ := hvn
          cases e2
          have hix : ((⟨#[c]⟩ : ByteArray)[0]'Nat.zero_lt_one) = c := rfl
          have hlc := c.toNat_lt
          have hlc2 : (c.toNat : Int) < 256 := by omega
          simp only [Option.getD_some] at hL1
          generalize S.count c = N at cC hL1 hA1 hcl
          generalize lenK ps (ks.take k) S = L0 at hL1 lb0 ⊢
          generalize anyK (ks.take k) S = A0 at hA1 ⊢
          rw [hL1] at lb1
          have hM : -10000000 ≤ (N : Int) * ((x.length : Int) - 1) ∧ (N : Int) * ((x.length : Int) - 1) ≤ 10000000 := by omega
          have HL1 := Lib.hid hL1
          have HA1 := Lib.hid hA1
          clear hL1 hA1 hnk htk
          by_cases hN : N = 0
          · subst hN
            have hL2 := HL1.out
            have hA2 := HA1.out
            rw [show ((0 : Nat) : Int) * ((x.length : Int) - 1) = 0 from Int.zero_mul _, Int.add_zero] at hL2
            rw [show decide ((0 : Nat) ≠ 0) = false from rfl, Bool.or_false] at hA2
            have HL2 := Lib.hid hL2
            have HA2 := Lib.hid hA2
            clear hL2 hA2 HL1 HA1
            go_wp2_with (go_at_call 50; with_reducible refine cC.mono ?_; rintro e w' ⟨rfl, rfl⟩)
            go_roundg g'
            case measure => omega
            case rel => exact ⟨k + 1, by omega, by go_num, by rw [HL2.out], by rw [HA2.out], hbr⟩
          · have hA2 := HA1.out
            rw [decide_eq_true (show N ≠ 0 from hN), Bool.or_true] at hA2
            have HA2 := Lib.hid hA2
            clear hA2 HA1
            have hN2 : ¬ (N : Int) = 0 := by omega
            go_wp2_with (go_at_call 50; with_reducible refine cC.mono ?_; rintro e w' ⟨rfl, rfl⟩)
            go_region
            all_goals (
              go_wp2_with fail
              go_roundg g'
              case measure => omega
              case rel => exact ⟨k + 1, by omega, by go_num, by rw [HL1.out], by rw [HA2.out], hbr.drew⟩)
        · have hke : k = ks.length := by omega
          subst hke
          rw [List.take_length, HL.out, HA.out]
          go_wp2_with fail
          go_meet
          exact ⟨rfl, rfl, hbr⟩
    | false =>
      go_wp2_with fail
      go_loopg [5, 6, 10, 11] S.length (fun g s5 s6 s10 s11 wr => ∃ k : Nat, k + g = S.length ∧ s10 = .int .i64 (k : Int) ∧ s5 = .int .i64 ((repF ps (S.take k)).length + ((S.length : Int) - k)) ∧ s6 = .bool (anyF ps (S.take k)) ∧ Below w.heap.size w wr)
      case atStart => exact ⟨0, by omega, rfl, by simp [repF], by simp [anyF], Below.refl _ _⟩
      case round =>
        obtain ⟨k, hk, rfl, rfl, rfl, hbr⟩ := hrel
        have hRr := hR.keep hbr
        by_cases hlt : k < S.length
        · obtain ⟨g', rfl⟩ : ∃ g', gk = g' + 1 := ⟨gk - 1, by omega⟩
          obtain ⟨c, hc⟩ : ∃ c, S[k]? = some c := ⟨S[k], List.getElem?_eq_getElem hlt⟩
          have htk : S.take (k + 1) = S.take k ++ [c] := by rw [List.take_add_one, hc]; rfl
          have hr1 := repF_snoc ps (S.take k) c
          have ha1 : anyF ps (S.take k ++ [c]) = (anyF ps (S.take k) || (ps.lookup c).isSome) := by simp [anyF]
          have rb := repF_bound hn (S.take k)
          have rb2 : (S.take k).length ≤ S.length := by rw [List.length_take]; omega
          rw [← htk] at hr1 ha1
          have hln : (repF ps (S.take (k + 1))).length = (repF ps (S.take k)).length + ((ps.lookup c).getD [c]).length := by rw [hr1, List.length_append]
          have hix : ∀ h, (⟨S.toArray⟩ : ByteArray)[k]'h = c := byte_at hc
          obtain ⟨v, hv, hvn⟩ := hRr.val c
          have hlc := c.toNat_lt
          have hlc2 : (c.toNat : Int) < 256 := by omega
          generalize repF ps (S.take k) = P0 at hln rb ⊢
          generalize anyF ps (S.take k) = A0 at ha1 ⊢
          clear hc htk hr1
          cases hl : ps.lookup c with
          | none =>
            rw [hl] at hvn hln ha1
            obtain rfl : v = .slice none 0 0 := Option.some.inj hvn
            simp only [Option.getD_none, List.length_singleton, Option.isSome_none, Bool.or_false] at hln ha1
            have HLN := Lib.hid hln
            have HA2 := Lib.hid ha1
            clear hln ha1
            go_wp2_with fail
            go_roundg g'
            case measure => omega
            case rel => exact ⟨k + 1, by omega, by go_num, by rw [HLN.out]; go_num, by rw [HA2.out], hbr⟩
          | some x =>
            rw [hl] at hvn hln ha1
            obtain ⟨gx, cx, e2, _⟩ := hvn
            cases e2
            have hxl : x.length ≤ 100 := hn _ (look_mem hl)
            simp only [Option.getD_some, Option.isSome_some, Bool.or_true] at hln ha1
            have HLN := Lib.hid hln
            have HA2 := Lib.hid ha1
            clear hln ha1
            go_wp2_with fail
            go_roundg g'
            case measure => omega
            case rel => exact ⟨k + 1, by omega, by go_num, by rw [HLN.out]; go_num, by rw [HA2.out], hbr⟩
        · have hke : k = S.length := by omega
          subst hke
          rw [List.take_length]
          go_wp2_with fail
          go_meet
          exact ⟨by go_num, rfl, hbr⟩
  case rest =>
    obtain ⟨rfl, rfl, y⟩ := hcut
    cases hany : anyF ps S with
    | false =>
      have hrn := repF_none hany
      rw [hrn]
      go_wp2_with fail
      go_ret
      exact ⟨by rw [hrn]; rfl, y⟩
    | true =>
      obtain ⟨i0, hi, hi0, hi1, hi2⟩ := info_parts u8_info
      have rb := repF_bound hn S
      have hRx := hR.keep y
      obtain ⟨n, hnE⟩ : ∃ n, (repF ps S).length = n := ⟨_, rfl⟩
      rw [hnE] at rb ⊢
      have HNE := Lib.hid hnE
      clear hnE hany
      go_upto_region 22 with (at_make; refine wpList_make_row _ rfl _ _ 93 rfl 5 i0 (.int .u8 0) Tryz.underlying93 hi hi0 hi1 rfl .i64 .i64 n rfl rfl ?b2 ?b3 ?_)
      case b2 => rw [hi2]; omega
      case b3 => omega
      have hb0 : BufAt (wc.alloc (.cells (madeCells #[.int .u8 0] n) 5)) wc.heap.size (List.replicate n 0) := by
        unfold BufAt
        rw [← buf_made]
        exact World.heap_alloc_new _ _
      have y2 := (Below.refl wc.heap.size wc).alloc (Nat.le_refl _) (.cells (madeCells #[.int .u8 0] n) 5)
      generalize wc.alloc (.cells (madeCells #[.int .u8 0] n) 5) = wd at hb0 y2 ⊢
      obtain ⟨G, hGe⟩ : ∃ G, G = wc.heap.size := ⟨_, rfl⟩
      have hG : wc.heap.size ≤ G := Nat.le_of_eq hGe.symm
      rw [← hGe] at hb0 ⊢
      clear hGe
      go_wp2_with fail
      go_loopg [13, 14, 15] S.length (fun g s13 s14 s15 wr => ∃ k m : Nat, k + g = S.length ∧ s14 = .int .i64 (k : Int) ∧ s13 = .int .i64 ((repF ps (S.take k)).length : Int) ∧ m = (repF ps (S.drop k)).length ∧ n = (repF ps (S.take k)).length + m ∧ BufAt wr G (repF ps (S.take k) ++ List.replicate m 0) ∧ Below wc.heap.size wc wr)
      case atStart => exact ⟨0, n, by omega, rfl, by simp [repF], by rw [List.drop_zero]; exact HNE.out.symm, by simp [repF], by simpa [repF] using hb0, y2⟩
      case round =>
        obtain ⟨k, m, hk, rfl, rfl, hm, hnm, hbuf, hbr⟩ := hrel
        have hRr := hRx.keep hbr
        by_cases hlt : k < S.length
        · obtain ⟨g', rfl⟩ : ∃ g', gk = g' + 1 := ⟨gk - 1, by omega⟩
          obtain ⟨c, hc⟩ : ∃ c, S[k]? = some c := ⟨S[k], List.getElem?_eq_getElem hlt⟩
          have htk : S.take (k + 1) = S.take k ++ [c] := by rw [List.take_add_one, hc]; rfl
          have hdk : S.drop k = c :: S.drop (k + 1) := by
            rw [List.drop_eq_getElem_cons hlt]
            rw [List.getElem?_eq_getElem hlt] at hc
            rw [Option.some.inj hc]
          have hr1 := repF_snoc ps (S.take k) c
          rw [← htk] at hr1
          rw [hdk, repF_cons, List.length_append] at hm
          have hix : ∀ h, (⟨S.toArray⟩ : ByteArray)[k]'h = c := byte_at hc
          obtain ⟨v, hv, hvn⟩ := hRr.val c
          have hlc := c.toNat_lt
          have hlc2 : (c.toNat : Int) < 256 := by omega
          obtain ⟨M, hM⟩ : ∃ M, (repF ps (S.drop (k + 1))).length = M := ⟨_, rfl⟩
          rw [hM] at hm
          have HM := Lib.hid hM
          generalize repF ps (S.take k) = P0 at hr1 hbuf hnm ⊢
          clear hc htk hdk hM
          cases hl : ps.lookup c with
          | none =>
            rw [hl] at hvn hr1 hm
            obtain rfl : v = .slice none 0 0 := Option.some.inj hvn
            simp only [Option.getD_none, List.length_singleton] at hr1 hm
            obtain rfl : m = M + 1 := by omega
            have hcell := hbuf.cell (j := P0.length) (x := 0) (by rw [List.getElem?_append_right (Nat.le_refl _), Nat.sub_self]; simp [List.replicate_succ])
            have hfr := hbuf.free P0.length
            have hput := hbuf.put P0.length c
            rw [buf_step, ← hr1] at hput
            have hbp := hbr.setCell (p := ⟨G, P0.length, none⟩) hG (.int .u8 (c.toNat : Int))
            have hj : (P0.length : Int) < (n : Int) := by omega
            have HR1 := Lib.hid hr1
            have HPUT := Lib.hid hput
            clear hr1 hput hbuf hm
            go_wp2_with fail
            go_roundg g'
            case measure => omega
            case rel => exact ⟨k + 1, M, by omega, by go_num, by rw [HR1.out]; simp, HM.out.symm, by rw [HR1.out, List.length_append]; simp; omega, HPUT.out, hbp⟩
          | some x =>
            rw [hl] at hvn hr1 hm
            obtain ⟨gx, cx, e2, _, hgx, hxc, hcx, hBx⟩ := hvn
            cases e2
            simp only [Option.getD_some] at hr1 hm
            subst hm
            have hj0 : (P0.length : Int) ≤ (n : Int) := by omega
            have hj1 : (P0.length : Int) ≤ (P0.length : Int) + ((x.length : Int) + (M : Int)) := by omega
            have hj3 : (P0.length : Int) ≤ (P0.length : Int) + (M : Int) := by omega
            by_cases hx0 : x = []
            · subst hx0
              have hcp : ∀ (W : World) (d : Option Addr) (l c : Nat), (Builtin.copy_ #[93, 93] 3 #[.slice d l c, .slice (some ⟨gx, 0, none⟩) 0 cx]).run Tryz.prog W = .ok (goInt 0) W := fun W d l c => run_copy_none W _ _ _ _ d _ l c 0 cx Tryz.underlying93 (by kernel_rfl) (Nat.zero_min _)
              rw [List.append_nil] at hr1
              simp only [List.length_nil, Nat.zero_add] at hbuf hnm
              have HNM := Lib.hid hnm
              have HR1 := Lib.hid hr1
              have HB := Lib.hid hbuf
              clear hr1 hbuf hBx hj1 hj3 hnm
              rcases Nat.eq_zero_or_pos M with hM0 | hM0
              · have hE : P0.length = n := by rw [HNM.out, hM0]; rfl
                clear hj0
                go_wp2_with fail
                go_region
                all_goals (
                  go_wp2_with fail
                  go_roundg g'
                  case measure => omega
                  case rel => exact ⟨k + 1, M, by omega, by go_num, by (first | (rw [HR1.out]; done) | (rw [HR1.out]; go_num)), HM.out.symm, by rw [HR1.out]; exact HNM.out, by rw [HR1.out]; exact HB.out, hbr.drew⟩)
              · have hE1 : ¬ n = P0.length := by have := HNM.out; omega
                have hE2 : ¬ n - P0.length = 0 := by have := HNM.out; omega
                have hE3 : ¬ n ≤ P0.length := by have := HNM.out; omega
                go_wp2_with fail
                go_region
                all_goals (
                  go_wp2_with fail
                  go_roundg g'
                  case measure => omega
                  case rel => exact ⟨k + 1, M, by omega, by go_num, by (first | (rw [HR1.out]; done) | (rw [HR1.out]; go_num)), HM.out.symm, by rw [HR1.out]; exact HNM.out, by rw [HR1.out]; exact HB.out, hbr.drew⟩)
            · have cp1 := hbuf.copied (cap := x.length + M) (cx := cx) (fun j y hy => hBx.cell hy)
              have hbd : BufAt wr.drew G (P0 ++ List.replicate (x.length + M) 0) := hbuf
              have cp2 := hbd.copied (cap := x.length + M) (cx := cx) (fun j y hy => (hBx.cell hy : wr.drew.cell? _ = _))
              obtain ⟨cp1, cb1⟩ := cp1
              obtain ⟨cp2, cb2⟩ := cp2
              have HR1 := Lib.hid hr1
              rw [List.append_assoc] at cb2
              have HB2 := Lib.hid cb2
              have hb3 := below_setRow hbr.drew hG (bufC (P0 ++ (x ++ List.replicate M 0)))
              subst hnm
              clear hr1 hbuf hbd cb1 cb2 hBx hj3 hj0
              go_wp2_with fail
              go_region
              all_goals (
                go_wp2_with fail
                go_roundg g'
                case measure => omega
                case rel => exact ⟨k + 1, M, by omega, by go_num, by rw [HR1.out, List.length_append]; go_num, HM.out.symm, by rw [HR1.out, List.length_append]; omega, by rw [HR1.out, List.append_assoc]; exact HB2.out, hb3⟩)
        · have hke : k = S.length := by omega
          subst hke
          rw [List.drop_length] at hm
          obtain rfl : m = 0 := by rw [hm]; rfl
          rw [List.take_length] at hbuf
          simp only [List.replicate_zero, List.append_nil] at hbuf
          have hrow := hbuf.row n n HNE.out.symm
          have hcv := run_bytes_text (P := Tryz.prog) hrow 93 9 5 Tryz.underlying93 Tryz.underlying5 Tryz.underlying9
          clear hrow hbuf hm hnm
          go_wp2_with fail
          go_ret
          exact ⟨rfl, y.trans (hbr.mono y.size)⟩
end Go.Proofs.YtclelkoefeiloaaGreatDoor
