/- The walks over utf7.Right and utf7.Encode. Conditions: utf8's two tables lie as their text lays them. -/
import Derived.Test.YtkaagodacjgoaaaDoorRows
import Derived.Test.YtkaagodacjgoaaaDoorShelf
import Derived.Test.YtkaagodacjgoaaaDoorUtfA
import Derived.Test.YtkaagodacjgoaaaDoorKit2
import Derived.Test.YtkaagodacjgoaaaDoorBuilder
namespace Go.Proofs.YtkaagodacjgoaaaDoor
open Go.RowKit Go.Shelf

set_option maxHeartbeats 400000 in
theorem rightClosure (x : Nat) (w : World) :
    Calls Tryd.prog 24 #[.int .i32 (x : Int)] w fun e w' => e = .returned (.bool (badRune x)) ∧ Below w.heap.size w w' := by
  by_cases h1 : (x : Int) < 32
  · have hb : badRune x = true := by unfold badRune; simp; omega
    rw [hb]
    clear hb
    go_enter Tryd.func24, Tryd.ntmps24
    go_wp2
    go_ret
    exact ⟨rfl, Below.refl _ _⟩
  · by_cases h2 : (127 : Int) ≤ (x : Int)
    · by_cases h3 : (x : Int) < 160
      · have hb : badRune x = true := by unfold badRune; simp; omega
        rw [hb]
        clear hb
        go_enter Tryd.func24, Tryd.ntmps24
        go_wp2
        go_ret
        exact ⟨rfl, Below.refl _ _⟩
      · have hb : badRune x = false := by unfold badRune; simp; omega
        rw [hb]
        clear hb
        go_enter Tryd.func24, Tryd.ntmps24
        go_wp2
        go_ret
        exact ⟨rfl, Below.refl _ _⟩
    · have hb : badRune x = false := by unfold badRune; simp; omega
      rw [hb]
      clear hb
      go_enter Tryd.func24, Tryd.ntmps24
      go_wp2
      go_ret
      exact ⟨rfl, Below.refl _ _⟩

def Tabs (w : World) : Prop := Lib.Utf8Tabs 0 1 w
theorem Tabs.below {w w' : World} (h : Tabs w) (hb : Below w.heap.size w w') : Tabs w' := Utf8Tabs_below h hb

theorem indexRight (s : ByteArray) (w : World) :
    Calls Tryd.prog 23 #[.string s, .func (.func 24) #[] #[]] w fun e w' => e = .returned (.int .i64 (Lib.idxFunc badRune true s)) ∧ Below w.heap.size w w' :=
  Tryd.strings_IndexFunc_grows 24 #[] (enters_of Tryd.func24 (by kernel_rfl) rfl) badRune s w (fun W x _ _ => rightClosure x W)

set_option maxHeartbeats 1000000 in
theorem right_any (s : ByteArray) (w : World) (hs : s.size ≤ 1000000) (hT : Tabs w) :
    Calls Tryd.prog 8 #[.string s] w fun e w' => e = .returned (.bool (rightL s.data.toList)) ∧ Below w.heap.size w w' := by
  have hlen : s.data.toList.length = s.size := (Lib.size_eq s).symm
  by_cases h0 : s.size = 0
  · have hr : rightL s.data.toList = false := by
      unfold rightL
      have : s.data.toList = [] := List.eq_nil_of_length_eq_zero (by omega)
      rw [this]; rfl
    rw [hr]
    have he : s.toList.isEmpty = true := by
      rw [Lib.toList_data]
      have : s.data.toList = [] := List.eq_nil_of_length_eq_zero (by omega)
      rw [this]; rfl
    clear hr hlen h0
    go_enter Tryd.func8, Tryd.ntmps8
    go_wp2
    go_ret
    exact ⟨rfl, Below.refl _ _⟩
  · have he : s.toList.isEmpty = false := by
      rw [Lib.toList_data]
      cases hl : s.data.toList with
      | nil => rw [hl] at hlen; simp at hlen; omega
      | cons a b => rfl
    by_cases h60 : s.size ≤ 60
    · have cV := Any.utf8_ValidString Tryd.laysValid s w (by omega) hT
      have hne : s.data.toList.isEmpty = false := by rw [← Lib.toList_data]; exact he
      by_cases hv : Lib.validD s.data.toList = true
      · rw [hv] at cV
        have hR : rightL s.data.toList = decide (Lib.idxFunc badRune true s < 0) := by
          unfold rightL
          rw [hne, hlen, hv, Bool.eq_iff_iff]
          simp only [Bool.not_false, Bool.true_and, Bool.and_eq_true, decide_eq_true_eq, List.all_eq_true, Bool.not_eq_true']
          rw [idx_neg]
          exact ⟨fun h => h.2, fun h => ⟨h60, h⟩⟩
        rw [hR]
        have cI := fun W => indexRight s W
        generalize Lib.idxFunc badRune true s = X at cI
        have h60z : (s.size : Int) ≤ 60 := by omega
        clear hR hv hne hlen h60 h0
        go_enter Tryd.func8, Tryd.ntmps8
        go_wp2_with (first | (go_at_call 22; refine cV.mono ?_; rintro e W1 ⟨rfl, hb1⟩) | (go_at_call 23; refine (cI _).mono ?_; rintro e W2 ⟨rfl, hb2⟩))
        go_ret
        exact ⟨rfl, hb1.trans (hb2.mono hb1.size)⟩
      · have hvf : Lib.validD s.data.toList = false := by simpa using hv
        rw [hvf] at cV
        have hR : rightL s.data.toList = false := by
          unfold rightL; rw [hvf]; simp
        rw [hR]
        have h60z : (s.size : Int) ≤ 60 := by omega
        clear hR hv hvf hne hlen h60 h0
        go_enter Tryd.func8, Tryd.ntmps8
        go_wp2_with (go_at_call 22; refine cV.mono ?_; rintro e W1 ⟨rfl, hb1⟩)
        go_ret
        exact ⟨rfl, hb1⟩
    · have hR : rightL s.data.toList = false := by
        unfold rightL; rw [hlen]; simp [h60]
      rw [hR]
      have h60z : (60 : Int) < (s.size : Int) := by omega
      clear hR hlen h60 h0
      go_enter Tryd.func8, Tryd.ntmps8
      go_wp2
      go_ret
      exact ⟨rfl, Below.refl _ _⟩

/-- flush: what waits is written; nothing waits -/
abbrev BT : TypeId := 36
set_option maxRecDepth 100000 in
set_option maxHeartbeats 2000000 in
theorem flush_any (W b B : Nat) (v : Value) (rs : List Nat) (out : List UInt8) (w : World) (hB : B ≤ W) (hBw : B ≤ w.heap.size) (hW : w.heap[W]? = some (.cells #[v] 37 (0, 0))) (hown : w.ownsRow B 21 1 v rs.length (runeVals rs)) (hr : ∀ r ∈ rs, r ≤ 1114111) (hn : rs.length ≤ 1000) (hout : out.length ≤ 100000)
    (hb : Lib.IsBuilderF 36 5 B b (Lib.byteCells out) w) :
    Calls Tryd.prog 13 #[.pointer (some ⟨W, 0, none⟩), .pointer (some ⟨b, 0, none⟩)] w fun e w' => e = .returned (.tuple #[]) ∧ (w'.heap[W]? = some (.cells #[.slice none 0 0] 37 (0, 0)) ∧ Lib.IsBuilderF 36 5 B b (Lib.byteCells (flushL out rs)) w' ∧ Below B w w' ∧
      (∀ (k : Nat) (o : Obj), w.heap[k]? = some o → k ≠ W → k ≠ b → (∀ c fz, o ≠ .cells c 5 fz) → w'.heap[k]? = some o)) := by
  have hWlt : W < w.heap.size := (Array.getElem?_eq_some_iff.1 hW).1
  have cW : w.cell? ⟨W, 0, none⟩ = some v := by rw [Lib.cell_of_heap hW]; rfl
  have fW : w.frozen? ⟨W, 0, none⟩ = false := Lib.frozen_of_heap hW 0
  have fin : ∀ (w1 : World) (out' : List UInt8), w1.heap[W]? = some (.cells #[v] 37 (0, 0)) → Lib.IsBuilderF 36 5 B b (Lib.byteCells out') w1 → Below B w w1 →
      (∀ (k : Nat) (o : Obj), w.heap[k]? = some o → k ≠ b → (∀ c fz, o ≠ .cells c 5 fz) → w1.heap[k]? = some o) →
      ((w1.setCell ⟨W, 0, none⟩ (.slice none 0 0)).heap[W]? = some (.cells #[.slice none 0 0] 37 (0, 0)) ∧ Lib.IsBuilderF 36 5 B b (Lib.byteCells out') (w1.setCell ⟨W, 0, none⟩ (.slice none 0 0)) ∧ Below B w (w1.setCell ⟨W, 0, none⟩ (.slice none 0 0)) ∧
      (∀ (k : Nat) (o : Obj), w.heap[k]? = some o → k ≠ W → k ≠ b → (∀ c fz, o ≠ .cells c 5 fz) → (w1.setCell ⟨W, 0, none⟩ (.slice none 0 0)).heap[k]? = some o)) := by
    intro w1 out' h1 h2 h3 h4
    refine ⟨setCell_one h1, bld_same h2 ?_, h3.setCell (p := ⟨W, 0, none⟩) hB _, fun k o hk hkW hkb ho => setCell_same (h4 k o hk hkb ho) hkW⟩
    intro k o hk hor
    refine setCell_same hk ?_
    intro hkW
    replace hkW : k = W := hkW
    rw [hkW, h1] at hk
    have hoo := Option.some.inj hk
    rcases hor with hkb | ⟨c, fz, ho⟩
    · obtain ⟨p, v', hb'⟩ : ∃ p v', w1.heap[b]? = some (.cells #[p, v'] 36 (0, 0)) := by
        rcases h2 with ⟨_, v', h, _⟩ | ⟨_, v', h, _⟩ <;> exact ⟨_, _, h⟩
      rw [← hkb, hkW, h1] at hb'
      cases hb'
    · rw [ho] at hoo; cases hoo
  cases rs with
  | nil =>
    obtain ⟨ao, cap, rfl⟩ : ∃ ao cap, v = .slice ao 0 cap := by
      rcases hown.2 with ⟨rfl, _⟩ | ⟨g, cap, cur, rfl, _⟩
      · exact ⟨_, _, rfl⟩
      · exact ⟨_, _, rfl⟩
    go_enter Tryd.func13, Tryd.ntmps13
    go_wp2
    go_end0
    exact ⟨rfl, fin w out hW hb (Below.refl _ _) (fun k o hk _ _ => hk)⟩
  | cons r0 rs0 =>
    obtain ⟨g, cap, rfl⟩ : ∃ g cap, v = .slice (some ⟨g, 0, none⟩) (r0 :: rs0).length cap := by
      rcases hown.2 with ⟨_, h0⟩ | ⟨g, cap, cur, rfl, _⟩
      · simp at h0
      · exact ⟨_, _, rfl⟩
    have cS := sextets_any _ (r0 :: rs0) w (rowAt_of_owns hown) hr hn (by simp)
    have hfl : flushL out (r0 :: rs0) = out ++ ([38] ++ (sixes ((r0 :: rs0).flatMap unitsOf)).map lett ++ [45]) := by simp [flushL]
    have hfln := flushL_len out (r0 :: rs0) hr
    rw [hfl] at hfln ⊢
    generalize (sixes ((r0 :: rs0).flatMap unitsOf)).map lett = S at cS hfln ⊢
    have hl : (0 : Int) < ((rs0.length : Int) + 1) := by omega
    have hSl : S.length ≤ 1000000 := by simp at hfln hn; omega
    clear hfl hown hr hfln hn
    go_enter Tryd.func13, Tryd.ntmps13
    go_wp2_with (go_at_call 15; refine cS.mono ?_; rintro e w1 ⟨rfl, hb1⟩)
    have hbl : Lib.IsBuilderF 36 5 B b (Lib.byteCells out) w1 := bld_same hb (fun k o hk _ => below_same hb1 hk)
    have hsz : (({ data := #[38] } : ByteArray) ++ { data := S.toArray } ++ { data := #[45] }).data.toList = [38] ++ S ++ [45] := by simp
    have hsl : (({ data := #[38] } : ByteArray) ++ { data := S.toArray } ++ { data := #[45] }).size = S.length + 2 := by
      rw [Lib.size_eq, hsz]; simp
    refine (bld_WriteString B b _ _ w1 hbl ?_ (Nat.le_trans hBw hb1.size)).mono ?_
    · rw [hsl, Lib.byteCells_length]; omega
    rintro e w2 ⟨rfl, h2, hb2, hk2⟩
    have hW1 := below_same hb1 hW
    have hW2 := hk2 W _ hW1 (by
      intro h
      have hWb : W = b := Option.some.inj h
      obtain ⟨p, v', hb'⟩ : ∃ p v', w.heap[b]? = some (.cells #[p, v'] 36 (0, 0)) := by
        rcases hb with ⟨_, v', h, _⟩ | ⟨_, v', h, _⟩ <;> exact ⟨_, _, h⟩
      rw [← hWb, hW] at hb'
      cases hb') (by intro c fz h; cases h)
    have cW2 : w2.cell? ⟨W, 0, none⟩ = some (.slice (some ⟨g, 0, none⟩) (r0 :: rs0).length cap) := by rw [Lib.cell_of_heap hW2]; rfl
    have fW2 : w2.frozen? ⟨W, 0, none⟩ = false := Lib.frozen_of_heap hW2 0
    go_wp2
    go_end0
    refine ⟨rfl, fin w2 _ hW2 (Or.inr ?_) ((hb1.mono hBw).trans hb2) (fun k o hk hkb ho => hk2 k o (below_same hb1 hk) (by simpa using hkb) ho)⟩
    have : Lib.byteCells out ++ Lib.strCells (({ data := #[38] } : ByteArray) ++ { data := S.toArray } ++ { data := #[45] }) = Lib.byteCells (out ++ ([38] ++ S ++ [45])) := by
      rw [Lib.byteCells_append, Lib.strCells_eq, hsz]
    have h2' := h2
    rw [this] at h2'
    simpa using h2'

abbrev errV (n : Int) : Value := .iface 29 (.int .i64 n)
theorem rune_info : (Tryd.prog.info? 21).map (fun i => (i.zero, i.size, i.bytes)) = some (some (.int .i32 0), 1, 4) := by kernel_rfl
theorem runeCells_plain (r : Nat) (h : r ≤ 126) : Lib.runeCells (r : Int) = Lib.byteCells [UInt8.ofNat r] := by
  unfold Lib.runeCells
  rw [Lib.encodeRuneZ_one (by omega) (by omega)]
  simp [Lib.byteCells, Nat.mod_eq_of_lt (show r < 256 by omega)]
theorem encF_step (r : Nat) (rs : List Nat) (out : List UInt8) (wait : List Nat) : encF (r :: rs) out wait = if 32 ≤ r ∧ r ≤ 126 ∧ r ≠ 38 then encF rs (flushL out wait ++ [UInt8.ofNat r]) [] else if r = 38 then encF rs (flushL out wait ++ [38, 45]) [] else encF rs out (wait ++ [r]) := rfl

set_option maxRecDepth 100000 in
set_option maxHeartbeats 4000000 in
theorem encode_no (s : ByteArray) (w : World) (hs : s.size ≤ 1000000) (hT : Tabs w) (hR : rightL s.data.toList = false) :
    Calls Tryd.prog 6 #[.string s] w fun e w' => e = .returned (.tuple #[.string ⟨#[]⟩, errV 1]) ∧ Below w.heap.size w w' := by
  have cR := right_any s w hs hT
  rw [hR] at cR
  clear hR
  go_enter Tryd.func6, Tryd.ntmps6
  go_wp2_with (go_at_call 8; refine cR.mono ?_; rintro e w1 ⟨rfl, hb1⟩)
  go_ret2
  exact ⟨rfl, hb1⟩

theorem rightL_size (s : ByteArray) (h : rightL s.data.toList = true) : s.size ≤ 60 := by
  unfold rightL at h
  simp only [Bool.and_eq_true, decide_eq_true_eq] at h
  rw [Lib.size_eq]; exact h.2.1

set_option maxRecDepth 100000 in
set_option maxHeartbeats 4000000 in
theorem encode_yes (s : ByteArray) (w : World) (hT : Tabs w) (hR : rightL s.data.toList = true) :
    Calls Tryd.prog 6 #[.string s] w fun e w' => e = .returned (.tuple #[.string ⟨(encL s.data.toList).toArray⟩, .nilIface]) ∧ Below w.heap.size w w' := by
  have hs := rightL_size s hR
  have cR := right_any s w (by omega) hT
  rw [hR] at cR
  clear hR
  go_enter Tryd.func6, Tryd.ntmps6
  go_wp2_with (go_at_call 8; refine cR.mono ?_; rintro e w1 ⟨rfl, hb1⟩)
  have hsz1 := hb1.size
  go_loopg [] s.size (fun g wr => ∃ (pos : Nat) (out : List UInt8) (rs : List Nat) (v : Value), wr.heap[w1.heap.size + 1 + 1]? = some (.stringIter s pos) ∧ wr.heap[w1.heap.size + 1]? = some (.cells #[v] 37 (0, 0)) ∧ wr.ownsRow w.heap.size 21 1 v rs.length (runeVals rs) ∧
    Lib.IsBuilderF 36 5 w.heap.size w1.heap.size (Lib.byteCells out) wr ∧ Below w.heap.size w wr ∧ s.size ≤ pos + g ∧ (∀ r ∈ rs, r ≤ 1114111) ∧ rs.length ≤ pos ∧ out.length + 9 * rs.length ≤ 9 * pos ∧ pos ≤ 64 ∧
    Hid (encF (runesL (s.data.toList.drop pos)) out rs = encL s.data.toList))
  case atStart =>
    refine ⟨0, [], [], .slice none 0 0, ?_, ?_, World.ownsRow_nil _ _ _ _, ?_, ?_, by omega, by simp, by simp, by simp, by omega, ?_⟩
    · have := World.iter_heap ((w1.alloc (.cells #[.pointer none, .slice none 0 0] 36)).alloc (.cells #[.slice none 0 0] 37)) s 0
      simpa using this
    · refine alloc_same ?_
      have := World.heap_alloc_new (w1.alloc (.cells #[.pointer none, .slice none 0 0] 36)) (.cells #[.slice none 0 0] 37)
      simpa using this
    · have h0 := bld_mono (Lib.IsBuilderF.of (Lib.fresh_isBuilder 36 5 w1)) hsz1
      exact (h0.alloc _).alloc _
    · exact ((hb1.alloc hsz1 _).alloc (by simp; omega) _).alloc (by simp; omega) _
    · show encF (runesL (s.data.toList.drop 0)) [] [] = _
      rw [List.drop_zero]; rfl
  case round =>
    obtain ⟨pos, out, rs, v, hit, hW, hown, hI, hbw, hfu, hrs, hrl, hol, hp3, Hf⟩ := hrel
    have hsz : w1.heap.size + 1 + 1 < wr.heap.size := (Array.getElem?_eq_some_iff.1 hit).1
    by_cases hp : pos < s.size
    · obtain ⟨g', rfl⟩ : ∃ g', gk = g' + 1 := ⟨gk - 1, by omega⟩
      have hnx : ∀ ty, (Instr.next (.pointer (some ⟨w1.heap.size + 1 + 1, 0, none⟩)) true ty).run Tryd.prog wr = _ := fun ty => Lib.run_next_any_at wr (w1.heap.size + 1 + 1) s pos ty hit hp
      have hwd := Lib.width_pos s pos
      have hw4 := width4 s pos
      have hRl := Lib.rune_le s pos
      have hfr := runesL_at s pos hp
      have hf0 := Hf.out
      rw [hfr] at hf0
      obtain ⟨R, hR⟩ : ∃ R, (Utf8.decode s pos).1 = R := ⟨_, rfl⟩
      obtain ⟨K, hK⟩ : ∃ K, (Utf8.decode s pos).2 = K := ⟨_, rfl⟩
      rw [hR, hK] at hnx hf0
      rw [hK] at hwd hw4
      rw [hR] at hRl
      rw [encF_step] at hf0
      clear hR hK hfr Hf
      have hit2 := Lib.iterAt_heap wr (w1.heap.size + 1 + 1) s pos (pos + K) hit
      have hbw2 := Lib.below_iterAt hbw (k := w1.heap.size + 1 + 1) (by omega) s (pos + K)
      have hI2 := hI.iterAt hit (pos + K)
      have hoth : ∀ (k : Nat) (o : Obj), wr.heap[k]? = some o → o ≠ .stringIter s pos → (wr.iterAt (w1.heap.size + 1 + 1) s (pos + K)).heap[k]? = some o := fun k o hk ho => (Lib.iterAt_other wr _ k s (pos + K) (ne_of_obj hk hit ho)).trans hk
      have hW2 := hoth _ _ hW (by intro h; cases h)
      have hown2 : (wr.iterAt (w1.heap.size + 1 + 1) s (pos + K)).ownsRow w.heap.size 21 1 v rs.length (runeVals rs) := owns_same hown (fun k o hk ho => hoth k o hk (by obtain ⟨c, fz, rfl⟩ := ho; intro h; cases h))
      have hszW : wr.heap.size = (wr.iterAt (w1.heap.size + 1 + 1) s (pos + K)).heap.size := (Lib.iterAt_size _ _ _ _).symm
      obtain ⟨X, hX⟩ : ∃ X, wr.iterAt (w1.heap.size + 1 + 1) s (pos + K) = X := ⟨_, rfl⟩
      rw [hX] at hnx hit2 hbw2 hI2 hW2 hown2 hszW
      clear hX hoth hit hW hown hI hbw
      have hXs : w.heap.size ≤ X.heap.size := by omega
      have hflen := flushL_len out rs hrs
      have cF := fun W => flush_any (w1.heap.size + 1) w1.heap.size w.heap.size v rs out W (by omega)
      by_cases hpl : 32 ≤ R ∧ R ≤ 126 ∧ R ≠ 38
      · rw [if_pos hpl] at hf0
        have HF := Lib.hid hf0
        have cP := plain_yes (R : Int) X (by omega) (by omega) (by omega)
        have hr1 : R ≤ 126 := hpl.2.1
        clear hpl hf0 hRl
        go_wp2_with (go_at_call 16; refine cP.mono ?_; rintro e w' ⟨rfl, rfl⟩)
        refine (cF X hXs hW2 hown2 hrs (by omega) (by omega) hI2).mono ?_
        rintro e X1 ⟨rfl, hW3, hI3, hb3, hk3⟩
        have hit3 := hk3 _ _ hit2 (by omega) (by omega) (by intro c fz h; cases h)
        have hXs1 : w.heap.size ≤ X1.heap.size := Nat.le_trans hXs hb3.size
        go_wp2_with fail
        refine (bld_WriteRune w.heap.size w1.heap.size _ (R : Int) (by omega) (by omega) X1 hI3 (by rw [Lib.byteCells_length]; omega) hXs1).mono ?_
        rintro e X2 ⟨rfl, hI4, hb4, hk4⟩
        have hit4 := hk4 _ _ hit3 (by simp; omega) (by intro c fz h; cases h)
        have hW4 := hk4 _ _ hW3 (by simp) (by intro c fz h; cases h)
        go_wp2_with fail
        go_roundg g'
        case measure => omega
        case rel =>
          refine ⟨pos + K, flushL out rs ++ [UInt8.ofNat R], [], .slice none 0 0, hit4, hW4, World.ownsRow_nil _ _ _ _, ?_, (hbw2.trans hb3).trans hb4, by omega, by simp, by simp, by simp; omega, by omega, HF.out⟩
          rw [Lib.byteCells_append, ← runeCells_plain R hr1]
          exact Or.inr hI4
      · rw [if_neg hpl] at hf0
        by_cases h38 : R = 38
        · rw [if_pos h38] at hf0
          have HF := Lib.hid hf0
          subst h38
          have cP := plain_no (38 : Int) X (by omega)
          clear hpl hf0 hRl
          go_wp2_with (go_at_call 16; refine cP.mono ?_; rintro e w' ⟨rfl, rfl⟩)
          refine (cF X hXs hW2 hown2 hrs (by omega) (by omega) hI2).mono ?_
          rintro e X1 ⟨rfl, hW3, hI3, hb3, hk3⟩
          have hit3 := hk3 _ _ hit2 (by omega) (by omega) (by intro c fz h; cases h)
          have hXs1 : w.heap.size ≤ X1.heap.size := Nat.le_trans hXs hb3.size
          go_wp2_with fail
          refine (bld_WriteString w.heap.size w1.heap.size _ _ X1 hI3 (by rw [Lib.byteCells_length]; show _ + 2 ≤ _; omega) hXs1).mono ?_
          rintro e X2 ⟨rfl, hI4, hb4, hk4⟩
          have hit4 := hk4 _ _ hit3 (by simp; omega) (by intro c fz h; cases h)
          have hW4 := hk4 _ _ hW3 (by simp) (by intro c fz h; cases h)
          go_wp2_with fail
          go_roundg g'
          case measure => omega
          case rel =>
            refine ⟨pos + K, flushL out rs ++ [38, 45], [], .slice none 0 0, hit4, hW4, World.ownsRow_nil _ _ _ _, ?_, (hbw2.trans hb3).trans hb4, by omega, by simp, by simp, by simp; omega, by omega, HF.out⟩
            rw [Lib.byteCells_append]
            exact Or.inr hI4
        · rw [if_neg h38] at hf0
          have HF := Lib.hid hf0
          have hRi : (R : Int) < 32 ∨ 126 < (R : Int) ∨ (R : Int) = 38 := by omega
          have cP := plain_no (R : Int) X hRi
          have hb38 : ((R : Int) == 38) = false := by rw [beq_eq_false_iff_ne]; omega
          have HRl := Lib.hid hRl
          have cW : X.cell? ⟨w1.heap.size + 1, 0, none⟩ = some v := by rw [Lib.cell_of_heap hW2]; rfl
          clear hpl hf0 hRl hRi h38 cF
          go_wp2_with (first | (go_at_call 16; refine cP.mono ?_; rintro e w' ⟨rfl, rfl⟩) | (at_builtin; go_must (refine wpList_app1 rfl _ _ 37 rfl 21 Tryd.underlying37 rune_info rfl w.heap.size _ _ _ _ rfl hown2 (.int .i32 (R : Int)) rfl rfl ?c3 (by decide) ?c5 ?_)))
          case c3 => omega
          case c5 => exact hXs
          intro v' X1 hown3 hg3 hv3
          have hW3 := app_keeps hW2 (by intro c fz h; cases h) hown2 hg3
          have hit3 := app_keeps hit2 (by intro c fz h; cases h) hown2 hg3
          have hb3 := below_app hbw2 hXs hown2 hg3
          have hI3 : Lib.IsBuilderF 36 5 w.heap.size w1.heap.size (Lib.byteCells out) X1 := bld_same hI2 (fun k o hk hor => app_keeps hk (by
            intro c fz h
            rcases hor with hkb | ⟨c', fz', ho⟩
            · obtain ⟨p, q, hpq⟩ := bld_block hI2
              rw [← hkb, hk, h] at hpq; cases hpq
            · rw [ho] at h; cases h) hown2 hg3)
          obtain ⟨gq, capq, rfl⟩ := owns_form hown3 (by omega)
          have cW3 : X1.cell? ⟨w1.heap.size + 1, 0, none⟩ = some v := by rw [Lib.cell_of_heap hW3]; rfl
          have fW3 : X1.frozen? ⟨w1.heap.size + 1, 0, none⟩ = false := Lib.frozen_of_heap hW3 0
          clear cW
          go_wp2_with fail
          go_roundg g'
          case measure => omega
          case rel =>
            refine ⟨pos + K, out, rs ++ [R], .slice (some ⟨gq, 0, none⟩) (rs.length + 1) capq, setCell_same hit3 (by simp), setCell_one hW3, ?_, bld_setOne hI3 hW3 (by decide), hb3.setCell (by show w.heap.size ≤ w1.heap.size + 1; omega) _, by omega, ?_, by simp; omega, by simp; omega, by omega, HF.out⟩
            · have := owns_setOne (u := .slice (some ⟨gq, 0, none⟩) (rs.length + 1) capq) hown3 hW3 (by decide)
              simpa [runeVals] using this
            · intro r hr
              rcases List.mem_append.1 hr with hr | hr
              · exact hrs r hr
              · rw [List.mem_singleton] at hr; rw [hr]; exact HRl.out
    · have hnx : ∀ ty, (Instr.next (.pointer (some ⟨w1.heap.size + 1 + 1, 0, none⟩)) true ty).run Tryd.prog wr = _ := fun ty => Lib.run_next_end_at wr (w1.heap.size + 1 + 1) s pos ty hit hp
      have hf0 := Hf.out
      rw [runesL_end s pos hp] at hf0
      have HF : Hid (flushL out rs = encL s.data.toList) := hf0
      have cF := flush_any (w1.heap.size + 1) w1.heap.size w.heap.size v rs out wr (by omega) (by omega) hW hown hrs (by omega) (by omega) hI
      clear hf0 Hf
      go_wp2_with fail
      refine cF.mono ?_
      rintro e X1 ⟨rfl, hW3, hI3, hb3, hk3⟩
      go_wp2_with fail
      refine (Tryd.Builder_String_any_k w.heap.size w1.heap.size _ X1 hI3 (Nat.le_trans hbw.size hb3.size)).mono ?_
      rintro e X2 ⟨rfl, hI4, hb4, hk4⟩
      go_wp2_with fail
      go_ret2
      exact ⟨by rw [← HF.out]; rfl, (hbw.trans hb3).trans hb4⟩
end Go.Proofs.YtkaagodacjgoaaaDoor
