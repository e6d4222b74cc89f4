/- The walks over utf7's runes and Decode. Conditions: utf8's two tables and bytealg.MaxLen lie as the program's text lays them. -/
import Derived.Test.YtkaagodacjgoaaaDoorRows
import Derived.Test.YtkaagodacjgoaaaDoorUtfB
import Derived.Test.YtkaagodacjgoaaaDoorPUtf2
namespace Go.Proofs.YtkaagodacjgoaaaDoor
open Go.RowKit Go.Shelf

theorem u32_info : (Tryd.prog.info? 58).map (fun i => (i.zero, i.size, i.bytes)) = some (some (.int .u32 0), 1, 4) := by kernel_rfl

theorem step_lt {acc n A y : Nat} (h : acc < 2 ^ n) (hA : A = acc * 64 + y) (hy : (y : Int) < 64) : Hid (A < 2 ^ (n + 6)) := by
  show A < 2 ^ (n + 6)
  rw [Nat.pow_add, show 2 ^ 6 = 64 from rfl, hA]
  have : (acc + 1) * 64 ≤ 2 ^ n * 64 := Nat.mul_le_mul_right _ h
  omega
theorem step_vals {l : List UInt8} {k : Nat} {c : UInt8} {ks : List Nat} {y : Nat} (hc : l[k]? = some c) (hf : valsOf (l.take k) = some ks) (hx : Lib.indexByte LET c = (y : Int)) : valsOf (l.take (k + 1)) = some (ks ++ [y]) := by
  rw [List.take_add_one, hc]
  have := valsOf_snoc (l.take k) c ks hf (by rw [hx]; omega)
  rw [hx, Int.toNat_natCast] at this
  exact this
theorem step_less {l : List UInt8} {k : Nat} {c : UInt8} {y acc n A : Nat} {us : List Nat} {sz : Nat} (hc : l[k]? = some c) (_h : k < sz) (hf : ∃ ks, valsOf (l.take k) = some ks ∧ unFold ks = (us, acc, n)) (hx : Lib.indexByte LET c = (y : Int)) (h10 : n < 10) (hA : A = acc * 64 + y) :
    Hid (∃ ks, valsOf (l.take (k + 1)) = some ks ∧ unFold ks = (us, A, n + 6)) := by
  obtain ⟨ks, h1, h2⟩ := hf
  refine ⟨ks ++ [y], step_vals hc h1 hx, ?_⟩
  unfold unFold at h2 ⊢
  rw [List.foldl_append, h2]
  simp only [List.foldl_cons, List.foldl_nil, unStep]
  rw [if_neg (by omega), hA]
theorem step_more {l : List UInt8} {k : Nat} {c : UInt8} {y acc n A u z m : Nat} {us : List Nat} {sz : Nat} (hc : l[k]? = some c) (_h : k < sz) (hf : ∃ ks, valsOf (l.take k) = some ks ∧ unFold ks = (us, acc, n)) (hx : Lib.indexByte LET c = (y : Int)) (hm : n = m + 10) (hA : A = acc * 64 + y) (hu : u = A / 2 ^ m % 65536) (hz : z = A % 2 ^ m) :
    Hid (∃ ks, valsOf (l.take (k + 1)) = some ks ∧ unFold ks = (us ++ [u], z, m)) := by
  obtain ⟨ks, h1, h2⟩ := hf
  refine ⟨ks ++ [y], step_vals hc h1 hx, ?_⟩
  unfold unFold at h2 ⊢
  rw [List.foldl_append, h2]
  simp only [List.foldl_cons, List.foldl_nil, unStep]
  rw [if_pos (by omega), hu, hz, hA, hm]
  simp

theorem pair_one {us out : List Nat} {i u : Nat} {r : Option (List Nat)} (hu : us[i]? = some u) (h : ¬ (55296 ≤ u ∧ u < 57344)) (hp : (pairU (us.drop i)).map (out ++ ·) = r) : Hid ((pairU (us.drop (i + 1))).map ((out ++ [u]) ++ ·) = r) := by
  show (pairU (us.drop (i + 1))).map ((out ++ [u]) ++ ·) = r
  have hd : us.drop i = u :: us.drop (i + 1) := by
    have hi : i < us.length := (List.getElem?_eq_some_iff.1 hu).1
    rw [List.drop_eq_getElem_cons hi]
    rw [List.getElem?_eq_getElem hi] at hu
    rw [Option.some.inj hu]
  rw [hd, pairU_one u _ h, Option.map_map] at hp
  rw [← hp]
  congr 1
  funext l
  simp

theorem pair_bad {us out : List Nat} {i u : Nat} (hu : us[i]? = some u) (h : 55296 ≤ u ∧ u < 57344) (hb : 56320 ≤ u ∨ i + 1 = us.length ∨ ∃ v, us[i + 1]? = some v ∧ (v < 56320 ∨ 57344 ≤ v)) (hp : (pairU (us.drop i)).map (out ++ ·) = pairU us) : Hid (pairU us = none) := by
  show pairU us = none
  have hi : i < us.length := (List.getElem?_eq_some_iff.1 hu).1
  have hd : us.drop i = u :: us.drop (i + 1) := by
    rw [List.drop_eq_getElem_cons hi]
    rw [List.getElem?_eq_getElem hi] at hu
    rw [Option.some.inj hu]
  rw [hd] at hp
  rw [← hp]
  cases hr : us.drop (i + 1) with
  | nil => simp only [pairU, if_pos h]; rfl
  | cons v l =>
    have hv : us[i + 1]? = some v := by
      have := congrArg (·[0]?) hr
      simpa using this
    have hcond : 56320 ≤ u ∨ v < 56320 ∨ 57344 ≤ v := by
      rcases hb with hb | hb | ⟨v', hv', hb⟩
      · exact Or.inl hb
      · rw [hb] at hv; simp at hv
      · rw [hv] at hv'
        cases hv'
        exact Or.inr hb
    simp only [pairU, if_pos h, if_pos hcond]
    rfl
theorem pair_two {us out : List Nat} {i u v : Nat} {r : Option (List Nat)} (hu : us[i]? = some u) (hv : us[i + 1]? = some v) (h : 55296 ≤ u ∧ u < 56320) (h2 : 56320 ≤ v ∧ v < 57344) (hp : (pairU (us.drop i)).map (out ++ ·) = r) : Hid ((pairU (us.drop (i + 2))).map ((out ++ [65536 + (u % 1024) * 1024 + v % 1024]) ++ ·) = r) := by
  show (pairU (us.drop (i + 2))).map ((out ++ [65536 + (u % 1024) * 1024 + v % 1024]) ++ ·) = r
  have hi : i < us.length := (List.getElem?_eq_some_iff.1 hu).1
  have hi1 : i + 1 < us.length := (List.getElem?_eq_some_iff.1 hv).1
  have hd : us.drop i = u :: v :: us.drop (i + 2) := by
    rw [List.drop_eq_getElem_cons hi, List.drop_eq_getElem_cons hi1]
    rw [List.getElem?_eq_getElem hi] at hu
    rw [List.getElem?_eq_getElem hi1] at hv
    rw [Option.some.inj hu, Option.some.inj hv]
  rw [hd] at hp
  simp only [pairU] at hp
  rw [if_pos (by omega), if_neg (by omega), Option.map_map] at hp
  rw [← hp]
  congr 1
  funext l
  simp
theorem and_u32_low (x : Int) (q : Nat) (h0 : 0 ≤ x) (h1 : (q : Int) * 1024 ≤ x) (h2 : x < (q : Int) * 1024 + 1024 ∧ q < 64 := by omega) : bits BinOp.and IntKind.u32 x 1023 = x - (q : Int) * 1024 := by
  obtain ⟨x, rfl⟩ := Int.eq_ofNat_of_zero_le h0
  have := u32_and_nat x 1023 (by omega) (by omega)
  rw [nat_mask10] at this
  rw [show (1023 : Int) = ((1023 : Nat) : Int) from rfl, this]
  omega

set_option maxRecDepth 100000 in
set_option maxHeartbeats 8000000 in
theorem runes_any (s : ByteArray) (w : World) (hs : s.size ≤ 1000000) :
    Calls Tryd.prog 20 #[.string s] w fun e w' => ∃ v, e = .returned (.tuple #[v, .bool (runesOf s.data.toList).isSome]) ∧ RowAt w' v (runeVals ((runesOf s.data.toList).getD [])) ∧ Below w.heap.size w w' := by
  have hlen : s.data.toList.length = s.size := (Lib.size_eq s).symm
  go_enter Tryd.func20, Tryd.ntmps20
  go_wp2
  go_loopg [4, 5, 6, 14] s.size (fun g s4 s5 s6 s14 wr => ∃ (k : Nat) (us : List Nat) (acc n : Nat), k + g = s.size ∧ s14 = .int .i64 k ∧ s5 = .int .u32 acc ∧ s6 = .int .i64 n ∧ n < 16 ∧ Hid (acc < 2 ^ n) ∧ us.length ≤ k ∧
    wr.ownsRow w.heap.size 58 1 s4 us.length (unitVals us) ∧ Below w.heap.size w wr ∧ Hid (∃ ks, valsOf (s.data.toList.take k) = some ks ∧ unFold ks = (us, acc, n)))
  case atStart => exact ⟨0, [], 0, 0, by omega, rfl, rfl, rfl, by omega, (by decide : (0 : Nat) < 2 ^ 0), by simp, World.ownsRow_nil _ _ _ _, Below.refl _ _, ⟨[], rfl, rfl⟩⟩
  case round =>
    obtain ⟨k, us, acc, n, hk, rfl, rfl, rfl, h16, Hacc, hul, hown, hb, Hf⟩ := hrel
    by_cases hlt : k < s.size
    · obtain ⟨g', rfl⟩ : ∃ g', gk = g' + 1 := ⟨gk - 1, by omega⟩
      obtain ⟨c, hc⟩ : ∃ c, s[k] = c := ⟨_, rfl⟩
      have hck : s.data.toList[k]? = some c := by
        rw [← hc]; simp [List.getElem?_eq_getElem (show k < s.data.toList.length by omega)]; rfl
      have HC := Lib.hid hck
      have cI := Tryd.strings_IndexByte ⟨LET.toArray⟩ (c.toNat : Int) wr
      have ec : ((c.toNat : Int).toNat.toUInt8) = c := by simp
      rw [ec, show (⟨LET.toArray⟩ : ByteArray).data.toList = LET from rfl] at cI
      obtain ⟨x, hx⟩ : ∃ x, Lib.indexByte LET c = x := ⟨_, rfl⟩
      rw [hx] at cI
      have HX := Lib.hid hx
      clear hx ec hck hlen
      by_cases hneg : x < 0
      · go_wp2_with (go_at_call 30; go_fit cI; rintro e w' ⟨rfl, rfl⟩)
        go_ret2
        have hn : runesOf s.data.toList = none := by
          unfold runesOf; rw [valsOf_bad _ k c HC.out (by rw [HX.out]; exact hneg)]; rfl
        exact ⟨_, by rw [hn]; rfl, Or.inl ⟨rfl, by rw [hn]; rfl⟩, hb⟩
      · obtain ⟨y, rfl⟩ := Int.eq_ofNat_of_zero_le (show 0 ≤ x by omega)
        have hy : y < 64 := by
          have := let_index_lt c (by rw [HX.out]; omega)
          rw [HX.out] at this; omega
        have hyz : (y : Int) < 64 := by omega
        have hlt2 := hlt
        have hacc5 : acc < 65536 := Nat.lt_of_lt_of_le Hacc.out (Nat.pow_le_pow_right (by decide) (by omega) : 2 ^ n ≤ 2 ^ 16)
        obtain ⟨A, hA⟩ : ∃ A : Nat, A = acc * 64 + y := ⟨_, rfl⟩
        have e4 : bits BinOp.or IntKind.u32 ((acc : Int) * 64 % 4294967296) (y : Int) = (A : Int) := by
          rw [Int.emod_eq_of_lt (by omega) (by omega)]
          have := u32_or_nat (acc * 2 ^ 6) y (by omega) (by omega)
          rw [or_add 6 acc y (by omega)] at this
          rw [hA, ← this]; simp
        have HA := Lib.hid hA
        have hAl : A < 4194304 := by omega
        clear hA hacc5 hy
        by_cases h10 : n < 10
        · have HAl := Lib.hid hAl
          clear hAl
          go_wp2_with (go_at_call 30; go_fit cI; rintro e w' ⟨rfl, rfl⟩)
          go_roundg g'
          case measure => omega
          case rel => exact ⟨k + 1, us, A, n + 6, by omega, by go_num, rfl, by go_num, by omega, step_lt Hacc.out HA.out hyz, by omega, hown, hb, step_less HC.out hlt2 Hf.out HX.out h10 HA.out⟩
        · have hc6 : n = 10 ∨ n = 11 ∨ n = 12 ∨ n = 13 ∨ n = 14 ∨ n = 15 := by omega
          rcases hc6 with rfl | rfl | rfl | rfl | rfl | rfl
          · obtain ⟨u, hu⟩ : ∃ u : Nat, u = A / 2 ^ 0 % 65536 := ⟨_, rfl⟩
            obtain ⟨z, hz⟩ : ∃ z : Nat, z = A % 2 ^ 0 := ⟨_, rfl⟩
            have e7 : bits BinOp.and IntKind.u32 (A : Int) 65535 = (u : Int) := by
              have := u32_and_nat (A / 2 ^ 0) 65535 (Nat.lt_of_le_of_lt (Nat.div_le_self _ _) (by omega)) (by omega)
              rw [show (65535 : Nat) = 2 ^ 16 - 1 from rfl, Nat.and_two_pow_sub_one_eq_mod] at this
              rw [hu, show 65536 = 2 ^ 16 from rfl, ← this]
              simp
            have e9 : bits BinOp.and IntKind.u32 (A : Int) 0 = (z : Int) := (u32_and_nat A 0 (by omega) (by omega)).trans (by rw [hz, show (0 : Nat) = 2 ^ 0 - 1 from rfl, Nat.and_two_pow_sub_one_eq_mod])
            have hzl : z < 2 ^ 0 := by rw [hz]; exact Nat.mod_lt _ (Nat.two_pow_pos _)
            have HU := Lib.hid hu
            have HZ := Lib.hid hz
            have HZl := Lib.hid hzl
            clear hu hz hzl hAl
            go_wp2_with (first | (go_at_call 30; go_fit cI; rintro e w' ⟨rfl, rfl⟩) | (at_builtin; go_must (refine wpList_app1 rfl _ _ 59 rfl 58 Tryd.underlying59 u32_info rfl w.heap.size _ _ _ _ rfl hown (.int .u32 (u : Int)) rfl rfl ?c3 (by decide) ?c5 ?_)))
            case c3 => omega
            case c5 => exact hb.size
            intro v' w1 hown3 hg3 hv3
            have hb3 := below_app hb hb.size hown hg3
            clear e4 e7 cI
            go_wp2_with fail
            go_roundg g'
            case measure => omega
            case rel => exact ⟨k + 1, us ++ [u], z, 0, by omega, by go_num, rfl, rfl, by omega, HZl.out, by simp; omega, by simpa [unitVals] using hown3, hb3, step_more HC.out hlt2 Hf.out HX.out (by decide) HA.out HU.out HZ.out⟩
          · obtain ⟨u, hu⟩ : ∃ u : Nat, u = A / 2 ^ 1 % 65536 := ⟨_, rfl⟩
            obtain ⟨z, hz⟩ : ∃ z : Nat, z = A % 2 ^ 1 := ⟨_, rfl⟩
            have e7 : bits BinOp.and IntKind.u32 ((A : Int) / 2) 65535 = (u : Int) := by
              have := u32_and_nat (A / 2 ^ 1) 65535 (Nat.lt_of_le_of_lt (Nat.div_le_self _ _) (by omega)) (by omega)
              rw [show (65535 : Nat) = 2 ^ 16 - 1 from rfl, Nat.and_two_pow_sub_one_eq_mod] at this
              rw [hu, show 65536 = 2 ^ 16 from rfl, ← this]
              simp
            have e9 : bits BinOp.and IntKind.u32 (A : Int) 1 = (z : Int) := (u32_and_nat A 1 (by omega) (by omega)).trans (by rw [hz, show (1 : Nat) = 2 ^ 1 - 1 from rfl, Nat.and_two_pow_sub_one_eq_mod])
            have hzl : z < 2 ^ 1 := by rw [hz]; exact Nat.mod_lt _ (Nat.two_pow_pos _)
            have HU := Lib.hid hu
            have HZ := Lib.hid hz
            have HZl := Lib.hid hzl
            clear hu hz hzl hAl
            go_wp2_with (first | (go_at_call 30; go_fit cI; rintro e w' ⟨rfl, rfl⟩) | (at_builtin; go_must (refine wpList_app1 rfl _ _ 59 rfl 58 Tryd.underlying59 u32_info rfl w.heap.size _ _ _ _ rfl hown (.int .u32 (u : Int)) rfl rfl ?c3 (by decide) ?c5 ?_)))
            case c3 => omega
            case c5 => exact hb.size
            intro v' w1 hown3 hg3 hv3
            have hb3 := below_app hb hb.size hown hg3
            clear e4 e7 cI
            go_wp2_with fail
            go_roundg g'
            case measure => omega
            case rel => exact ⟨k + 1, us ++ [u], z, 1, by omega, by go_num, rfl, rfl, by omega, HZl.out, by simp; omega, by simpa [unitVals] using hown3, hb3, step_more HC.out hlt2 Hf.out HX.out (by decide) HA.out HU.out HZ.out⟩
          · obtain ⟨u, hu⟩ : ∃ u : Nat, u = A / 2 ^ 2 % 65536 := ⟨_, rfl⟩
            obtain ⟨z, hz⟩ : ∃ z : Nat, z = A % 2 ^ 2 := ⟨_, rfl⟩
            have e7 : bits BinOp.and IntKind.u32 ((A : Int) / 4) 65535 = (u : Int) := by
              have := u32_and_nat (A / 2 ^ 2) 65535 (Nat.lt_of_le_of_lt (Nat.div_le_self _ _) (by omega)) (by omega)
              rw [show (65535 : Nat) = 2 ^ 16 - 1 from rfl, Nat.and_two_pow_sub_one_eq_mod] at this
              rw [hu, show 65536 = 2 ^ 16 from rfl, ← this]
              simp
            have e9 : bits BinOp.and IntKind.u32 (A : Int) 3 = (z : Int) := (u32_and_nat A 3 (by omega) (by omega)).trans (by rw [hz, show (3 : Nat) = 2 ^ 2 - 1 from rfl, Nat.and_two_pow_sub_one_eq_mod])
            have hzl : z < 2 ^ 2 := by rw [hz]; exact Nat.mod_lt _ (Nat.two_pow_pos _)
            have HU := Lib.hid hu
            have HZ := Lib.hid hz
            have HZl := Lib.hid hzl
            clear hu hz hzl hAl
            go_wp2_with (first | (go_at_call 30; go_fit cI; rintro e w' ⟨rfl, rfl⟩) | (at_builtin; go_must (refine wpList_app1 rfl _ _ 59 rfl 58 Tryd.underlying59 u32_info rfl w.heap.size _ _ _ _ rfl hown (.int .u32 (u : Int)) rfl rfl ?c3 (by decide) ?c5 ?_)))
            case c3 => omega
            case c5 => exact hb.size
            intro v' w1 hown3 hg3 hv3
            have hb3 := below_app hb hb.size hown hg3
            clear e4 e7 cI
            go_wp2_with fail
            go_roundg g'
            case measure => omega
            case rel => exact ⟨k + 1, us ++ [u], z, 2, by omega, by go_num, rfl, rfl, by omega, HZl.out, by simp; omega, by simpa [unitVals] using hown3, hb3, step_more HC.out hlt2 Hf.out HX.out (by decide) HA.out HU.out HZ.out⟩
          · obtain ⟨u, hu⟩ : ∃ u : Nat, u = A / 2 ^ 3 % 65536 := ⟨_, rfl⟩
            obtain ⟨z, hz⟩ : ∃ z : Nat, z = A % 2 ^ 3 := ⟨_, rfl⟩
            have e7 : bits BinOp.and IntKind.u32 ((A : Int) / 8) 65535 = (u : Int) := by
              have := u32_and_nat (A / 2 ^ 3) 65535 (Nat.lt_of_le_of_lt (Nat.div_le_self _ _) (by omega)) (by omega)
              rw [show (65535 : Nat) = 2 ^ 16 - 1 from rfl, Nat.and_two_pow_sub_one_eq_mod] at this
              rw [hu, show 65536 = 2 ^ 16 from rfl, ← this]
              simp
            have e9 : bits BinOp.and IntKind.u32 (A : Int) 7 = (z : Int) := (u32_and_nat A 7 (by omega) (by omega)).trans (by rw [hz, show (7 : Nat) = 2 ^ 3 - 1 from rfl, Nat.and_two_pow_sub_one_eq_mod])
            have hzl : z < 2 ^ 3 := by rw [hz]; exact Nat.mod_lt _ (Nat.two_pow_pos _)
            have HU := Lib.hid hu
            have HZ := Lib.hid hz
            have HZl := Lib.hid hzl
            clear hu hz hzl hAl
            go_wp2_with (first | (go_at_call 30; go_fit cI; rintro e w' ⟨rfl, rfl⟩) | (at_builtin; go_must (refine wpList_app1 rfl _ _ 59 rfl 58 Tryd.underlying59 u32_info rfl w.heap.size _ _ _ _ rfl hown (.int .u32 (u : Int)) rfl rfl ?c3 (by decide) ?c5 ?_)))
            case c3 => omega
            case c5 => exact hb.size
            intro v' w1 hown3 hg3 hv3
            have hb3 := below_app hb hb.size hown hg3
            clear e4 e7 cI
            go_wp2_with fail
            go_roundg g'
            case measure => omega
            case rel => exact ⟨k + 1, us ++ [u], z, 3, by omega, by go_num, rfl, rfl, by omega, HZl.out, by simp; omega, by simpa [unitVals] using hown3, hb3, step_more HC.out hlt2 Hf.out HX.out (by decide) HA.out HU.out HZ.out⟩
          · obtain ⟨u, hu⟩ : ∃ u : Nat, u = A / 2 ^ 4 % 65536 := ⟨_, rfl⟩
            obtain ⟨z, hz⟩ : ∃ z : Nat, z = A % 2 ^ 4 := ⟨_, rfl⟩
            have e7 : bits BinOp.and IntKind.u32 ((A : Int) / 16) 65535 = (u : Int) := by
              have := u32_and_nat (A / 2 ^ 4) 65535 (Nat.lt_of_le_of_lt (Nat.div_le_self _ _) (by omega)) (by omega)
              rw [show (65535 : Nat) = 2 ^ 16 - 1 from rfl, Nat.and_two_pow_sub_one_eq_mod] at this
              rw [hu, show 65536 = 2 ^ 16 from rfl, ← this]
              simp
            have e9 : bits BinOp.and IntKind.u32 (A : Int) 15 = (z : Int) := (u32_and_nat A 15 (by omega) (by omega)).trans (by rw [hz, show (15 : Nat) = 2 ^ 4 - 1 from rfl, Nat.and_two_pow_sub_one_eq_mod])
            have hzl : z < 2 ^ 4 := by rw [hz]; exact Nat.mod_lt _ (Nat.two_pow_pos _)
            have HU := Lib.hid hu
            have HZ := Lib.hid hz
            have HZl := Lib.hid hzl
            clear hu hz hzl hAl
            go_wp2_with (first | (go_at_call 30; go_fit cI; rintro e w' ⟨rfl, rfl⟩) | (at_builtin; go_must (refine wpList_app1 rfl _ _ 59 rfl 58 Tryd.underlying59 u32_info rfl w.heap.size _ _ _ _ rfl hown (.int .u32 (u : Int)) rfl rfl ?c3 (by decide) ?c5 ?_)))
            case c3 => omega
            case c5 => exact hb.size
            intro v' w1 hown3 hg3 hv3
            have hb3 := below_app hb hb.size hown hg3
            clear e4 e7 cI
            go_wp2_with fail
            go_roundg g'
            case measure => omega
            case rel => exact ⟨k + 1, us ++ [u], z, 4, by omega, by go_num, rfl, rfl, by omega, HZl.out, by simp; omega, by simpa [unitVals] using hown3, hb3, step_more HC.out hlt2 Hf.out HX.out (by decide) HA.out HU.out HZ.out⟩
          · obtain ⟨u, hu⟩ : ∃ u : Nat, u = A / 2 ^ 5 % 65536 := ⟨_, rfl⟩
            obtain ⟨z, hz⟩ : ∃ z : Nat, z = A % 2 ^ 5 := ⟨_, rfl⟩
            have e7 : bits BinOp.and IntKind.u32 ((A : Int) / 32) 65535 = (u : Int) := by
              have := u32_and_nat (A / 2 ^ 5) 65535 (Nat.lt_of_le_of_lt (Nat.div_le_self _ _) (by omega)) (by omega)
              rw [show (65535 : Nat) = 2 ^ 16 - 1 from rfl, Nat.and_two_pow_sub_one_eq_mod] at this
              rw [hu, show 65536 = 2 ^ 16 from rfl, ← this]
              simp
            have e9 : bits BinOp.and IntKind.u32 (A : Int) 31 = (z : Int) := (u32_and_nat A 31 (by omega) (by omega)).trans (by rw [hz, show (31 : Nat) = 2 ^ 5 - 1 from rfl, Nat.and_two_pow_sub_one_eq_mod])
            have hzl : z < 2 ^ 5 := by rw [hz]; exact Nat.mod_lt _ (Nat.two_pow_pos _)
            have HU := Lib.hid hu
            have HZ := Lib.hid hz
            have HZl := Lib.hid hzl
            clear hu hz hzl hAl
            go_wp2_with (first | (go_at_call 30; go_fit cI; rintro e w' ⟨rfl, rfl⟩) | (at_builtin; go_must (refine wpList_app1 rfl _ _ 59 rfl 58 Tryd.underlying59 u32_info rfl w.heap.size _ _ _ _ rfl hown (.int .u32 (u : Int)) rfl rfl ?c3 (by decide) ?c5 ?_)))
            case c3 => omega
            case c5 => exact hb.size
            intro v' w1 hown3 hg3 hv3
            have hb3 := below_app hb hb.size hown hg3
            clear e4 e7 cI
            go_wp2_with fail
            go_roundg g'
            case measure => omega
            case rel => exact ⟨k + 1, us ++ [u], z, 5, by omega, by go_num, rfl, rfl, by omega, HZl.out, by simp; omega, by simpa [unitVals] using hown3, hb3, step_more HC.out hlt2 Hf.out HX.out (by decide) HA.out HU.out HZ.out⟩
    · have hul2 : us.length ≤ 1000000 := by omega
      have HV : Hid (runesOf s.data.toList = pairU us) := by
        obtain ⟨ks, h1, h2⟩ := Hf.out
        rw [List.take_of_length_le (by omega)] at h1
        show runesOf s.data.toList = _
        unfold runesOf
        rw [h1]
        show pairU (unFold ks).1 = _
        rw [h2]
      have Hus : Hid (∀ u ∈ us, u < 65536) := by
        obtain ⟨ks, h1, h2⟩ := Hf.out
        have := (unFold_spec ks (valsOf_lt _ ks h1)).1
        rw [h2] at this
        exact this
      obtain ⟨ao, cap, rfl, hao⟩ := owns_slice hown
      have Hao := Lib.hid hao
      clear hao Hf Hacc hlen hul
      go_wp2_with fail
      clear hk hlt
      obtain ⟨wo, rfl⟩ : ∃ wo : World, wo = wr := ⟨_, rfl⟩
      go_loopg [9, 10] us.length (fun g s9 s10 wr => ∃ (i : Nat) (out : List Nat), us.length ≤ i + g ∧ i ≤ us.length ∧ s10 = .int .i64 i ∧ out.length ≤ i ∧ wr.ownsRow w.heap.size 21 1 s9 out.length (runeVals out) ∧
        wr.ownsRow w.heap.size 58 1 (.slice ao us.length cap) us.length (unitVals us) ∧ Below w.heap.size w wr ∧ Hid ((pairU (us.drop i)).map (out ++ ·) = pairU us))
      case atStart => exact ⟨0, [], by omega, by omega, rfl, by simp, World.ownsRow_nil _ _ _ _, hown, hb, by show (pairU (us.drop 0)).map ([] ++ ·) = _; simp⟩
      case round =>
        clear hown hb
        obtain ⟨i, out, hig, hil, rfl, hol, hown, howU, hb, Hp⟩ := hrel
        by_cases hiu : i < us.length
        · obtain ⟨g', rfl⟩ : ∃ g', gk = g' + 1 := ⟨gk - 1, by omega⟩
          obtain ⟨gb, rfl⟩ := Hao.out (by omega)
          obtain ⟨u, hu⟩ : ∃ u, us[i]? = some u := ⟨us[i], List.getElem?_eq_getElem hiu⟩
          have hu16 := Hus.out u (List.mem_of_getElem? hu)
          have hcell := owns_cell howU (j := i) (u := .int .u32 (u : Int)) (by simp [unitVals, hu])
          obtain ⟨U, hU⟩ : ∃ U : Int, (u : Int) = U := ⟨_, rfl⟩
          have hU0 : 0 ≤ U := by omega
          have hU1 : U < 65536 := by omega
          rw [hU] at hcell
          have HU := Lib.hid hu
          have HUU := Lib.hid hU
          clear hu hu16 hU
          by_cases hlow : U < 55296
          · go_wp2_with (at_builtin; go_must (refine wpList_app1 rfl _ _ 37 rfl 21 Tryd.underlying37 rune_info rfl w.heap.size _ _ _ _ rfl hown (.int .i32 U) rfl rfl ?c3 (by decide) ?c5 ?_))
            case c3 => omega
            case c5 => exact hb.size
            intro v' w1 hown3 hg3 hv3
            have hb3 := below_app hb hb.size hown hg3
            have howU3 := owns_app howU hown hg3 (by decide)
            go_wp2_with fail
            go_roundg g'
            case measure => omega
            case rel => exact ⟨i + 1, out ++ [u], by omega, by omega, by go_num, by simp; omega, by simpa [runeVals, HUU.out] using hown3, howU3, hb3, pair_one HU.out (by have := HUU.out; omega) Hp.out⟩
          · by_cases hhigh : 57344 ≤ U
            · go_wp2_with (at_builtin; go_must (refine wpList_app1 rfl _ _ 37 rfl 21 Tryd.underlying37 rune_info rfl w.heap.size _ _ _ _ rfl hown (.int .i32 U) rfl rfl ?c3 (by decide) ?c5 ?_))
              case c3 => omega
              case c5 => exact hb.size
              intro v' w1 hown3 hg3 hv3
              have hb3 := below_app hb hb.size hown hg3
              have howU3 := owns_app howU hown hg3 (by decide)
              go_wp2_with fail
              go_roundg g'
              case measure => omega
              case rel => exact ⟨i + 1, out ++ [u], by omega, by omega, by go_num, by simp; omega, by simpa [runeVals, HUU.out] using hown3, howU3, hb3, pair_one HU.out (by have := HUU.out; omega) Hp.out⟩
            · by_cases hsec : 56320 ≤ U
              · have HB : Hid (pairU us = none) := pair_bad HU.out (by have := HUU.out; omega) (Or.inl (by have := HUU.out; omega)) Hp.out
                go_wp2_with fail
                go_ret2
                exact ⟨_, by rw [HV.out, HB.out]; rfl, Or.inl ⟨rfl, by rw [HV.out, HB.out]; rfl⟩, hb⟩
              · by_cases hlast : i + 1 = us.length
                · have HB : Hid (pairU us = none) := pair_bad HU.out (by have := HUU.out; omega) (Or.inr (Or.inl hlast)) Hp.out
                  have hlz : ((i : Int) + 1 == (us.length : Int)) = true := by rw [beq_iff_eq]; omega
                  clear hlast
                  go_wp2_with fail
                  go_ret2
                  exact ⟨_, by rw [HV.out, HB.out]; rfl, Or.inl ⟨rfl, by rw [HV.out, HB.out]; rfl⟩, hb⟩
                · obtain ⟨v, hv⟩ : ∃ v, us[i + 1]? = some v := ⟨us[i + 1], List.getElem?_eq_getElem (by omega)⟩
                  have hv16 := Hus.out v (List.mem_of_getElem? hv)
                  have hcell2 := owns_cell howU (j := i + 1) (u := .int .u32 (v : Int)) (by simp [unitVals, hv])
                  obtain ⟨V, hV⟩ : ∃ V : Int, (v : Int) = V := ⟨_, rfl⟩
                  have hV0 : 0 ≤ V := by omega
                  have hV1 : V < 65536 := by omega
                  rw [hV] at hcell2
                  have HVV := Lib.hid hV
                  have HW := Lib.hid hv
                  have hlz : ((i : Int) + 1 == (us.length : Int)) = false := by rw [beq_eq_false_iff_ne]; omega
                  have hi1 : i + 1 < us.length := by omega
                  clear hv hv16 hV hlast
                  by_cases hva : V < 56320
                  · have HB : Hid (pairU us = none) := pair_bad HU.out (by have := HUU.out; omega) (Or.inr (Or.inr ⟨v, HW.out, by have := HVV.out; omega⟩)) Hp.out
                    go_wp2_with fail
                    go_ret2
                    exact ⟨_, by rw [HV.out, HB.out]; rfl, Or.inl ⟨rfl, by rw [HV.out, HB.out]; rfl⟩, hb⟩
                  · by_cases hvb : 57344 ≤ V
                    · have HB : Hid (pairU us = none) := pair_bad HU.out (by have := HUU.out; omega) (Or.inr (Or.inr ⟨v, HW.out, by have := HVV.out; omega⟩)) Hp.out
                      go_wp2_with fail
                      go_ret2
                      exact ⟨_, by rw [HV.out, HB.out]; rfl, Or.inl ⟨rfl, by rw [HV.out, HB.out]; rfl⟩, hb⟩
                    · obtain ⟨X, hX⟩ : ∃ X : Int, X = 65536 + (U - 55296) * 1024 + (V - 56320) := ⟨_, rfl⟩
                      have e1 : bits BinOp.and IntKind.u32 U 1023 = U - 55296 := by have := and_u32_low U 54 (by omega) (by omega) (by omega); omega
                      have e2 : bits BinOp.and IntKind.u32 V 1023 = V - 56320 := by have := and_u32_low V 55 (by omega) (by omega) (by omega); omega
                      go_wp2_with (at_builtin; go_must (refine wpList_app1 rfl _ _ 37 rfl 21 Tryd.underlying37 rune_info rfl w.heap.size _ _ _ _ rfl hown (.int .i32 (65536 + (U - 55296) * 1024 + (V - 56320))) rfl rfl ?c3 (by decide) ?c5 ?_))
                      case c3 => omega
                      case c5 => exact hb.size
                      intro v' w1 hown3 hg3 hv3
                      have hb3 := below_app hb hb.size hown hg3
                      have howU3 := owns_app howU hown hg3 (by decide)
                      have hq : ((65536 + (u % 1024) * 1024 + v % 1024 : Nat) : Int) = 65536 + (U - 55296) * 1024 + (V - 56320) := by
                        have h1 := HUU.out; have h2 := HVV.out; omega
                      have HQ := Lib.hid hq
                      clear hq hX e1 e2
                      go_wp2_with fail
                      go_roundg g'
                      case measure => omega
                      case rel => exact ⟨i + 2, out ++ [65536 + (u % 1024) * 1024 + v % 1024], by omega, by omega, by go_num, by simp; omega, by
                        have h5 := hown3
                        rw [← HQ.out] at h5
                        simpa [runeVals] using h5, howU3, hb3, pair_two HU.out HW.out (by have := HUU.out; omega) (by have := HVV.out; omega) Hp.out⟩
        · have hie : i = us.length := by omega
          have HP2 : Hid (pairU us = some out) := by
            have h1 := Hp.out
            rw [hie, List.drop_length] at h1
            show pairU us = _
            rw [← h1]; simp [pairU]
          clear hie Hp
          go_wp2_with fail
          go_ret2
          refine ⟨_, by rw [HV.out, HP2.out]; rfl, ?_, hb⟩
          rw [HV.out, HP2.out]
          exact rowAt_of_owns hown
end Go.Proofs.YtkaagodacjgoaaaDoor
