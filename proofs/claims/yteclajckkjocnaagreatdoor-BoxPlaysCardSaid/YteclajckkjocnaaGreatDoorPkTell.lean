/- errors.As and api.Tell of an error that is an Errno, and plain.Place of it: Go's own text is walked; reflectlite's entries by closed facts at this dump. Conditions: errors.errorType lies as the program's text lays it. api.Tell, plain.Place, and the statements' own words 'is' and 'bare', of nil and of an error that is an Errno. Conditions: errors.errorType lies as the program's text lays it. -/
import Derived.Test.YteclajckkjocnaaGreatDoorRows
import Derived.WalkKit
import Derived.WalkSpells
import Derived.WalkLawsBesides
import Derived.LaidEql
import Derived.Stop.Asserts
import Derived.RowKitTokens
import Derived.Test.YteclajckkjocnaaGreatDoorPkBytes
namespace Go.Proofs.YteclajckkjocnaaGreatDoor
open Go.RowKit Go.Extern.Stop Go.Stop Go.Extern
set_option linter.unusedSimpArgs false
/-- how many package-level variables the dump has: the block of type handles -/
abbrev GB : Nat := 5
def ErrTy (w : World) : Prop := w.cell? ⟨2, 0, none⟩ = some (.iface 194 (.agg #[.pointer (some ⟨GB, 55, none⟩)]))
theorem ra_valueOfP (t : Addr) (w : World) : (ReflectliteValue.unpack (.iface 163 (.pointer (some t)))).run Tryz.prog w
    = .ok (.agg #[.pointer (some ⟨GB, 163, none⟩), .pointer (some ⟨w.heap.size, 0, none⟩), .int .u64 150]) (w.alloc (.cells #[.pointer (some t)] 163)) := by kernel_rfl
theorem ra_typeP (a : Addr) (w : World) : (ReflectliteValue.methodAny (ReflectliteValue.valueError "reflectlite.Value.Type" 0) (fun t _ _ _ => ReflectliteType.toType t) #[.agg #[.pointer (some ⟨GB, 163, none⟩), .pointer (some a), .int .u64 150]]).run Tryz.prog w
    = .ok (.iface 194 (.agg #[.pointer (some ⟨GB, 163, none⟩)])) w := by kernel_rfl
theorem ra_mKind (h : Value) (w : World) : (Go.method 335 194 (.agg #[h]) "Kind").run Tryz.prog w = .ok (157, h) w := by kernel_rfl
theorem ra_mElem (h : Value) (w : World) : (Go.method 335 194 (.agg #[h]) "Elem").run Tryz.prog w = .ok (169, .agg #[h]) w := by kernel_rfl
theorem ra_mImpl (h : Value) (w : World) : (Go.method 335 194 (.agg #[h]) "Implements").run Tryz.prog w = .ok (170, .agg #[h]) w := by kernel_rfl
theorem ra_mAssign (h : Value) (w : World) : (Go.method 335 194 (.agg #[h]) "AssignableTo").run Tryz.prog w = .ok (167, .agg #[h]) w := by kernel_rfl
theorem ra_kindP (w : World) : ((ReflectliteType.abiMethod fun t => (fun a : Nat => Value.int IntKind.u8 (a : Int)) <$> Rtype.kind t) #[.pointer (some ⟨GB, 163, none⟩)]).run Tryz.prog w = .ok (.int .u8 22) w := by kernel_rfl
theorem ra_kindE (w : World) : ((ReflectliteType.abiMethod fun t => (fun a : Nat => Value.int IntKind.u8 (a : Int)) <$> Rtype.kind t) #[.pointer (some ⟨GB, 59, none⟩)]).run Tryz.prog w = .ok (.int .u8 2) w := by kernel_rfl
theorem ra_rlm (z : Sem Value) (f : TypeId → Addr → Nat → Nat → Sem Value) (v : Value) :
    ReflectliteValue.method z f #[v] = (do match ← ReflectliteValue.parts v with | none => z | some (t, a, fl) => f t a fl (fl % 32)) := rfl
theorem ra_partsP (a : Addr) (w : World) : (ReflectliteValue.parts (.agg #[.pointer (some ⟨GB, 163, none⟩), .pointer (some a), .int .u64 150])).run Tryz.prog w = .ok (some (163, a, 150)) w := by kernel_rfl
theorem ra_isNilP (a p : Addr) (W : World) (ha : W.cell? a = some (.pointer (some p))) :
    (ReflectliteValue.method (ReflectliteValue.valueError "reflectlite.Value.IsNil" 0) ReflectliteValue.isNil #[.agg #[.pointer (some ⟨GB, 163, none⟩), .pointer (some a), .int .u64 150]]).run Tryz.prog W = .ok (.bool false) W := by
  rw [ra_rlm]
  simp only [Sem.run_bind, ra_partsP, Result.andThen]
  simp [ReflectliteValue.isNil, loadVar, isAgg, underlying, Tryz.underlying163, ha, Result.andThen]
theorem ra_elemP (w : World) : (ReflectliteType.method ReflectliteType.elem #[.agg #[.pointer (some ⟨GB, 163, none⟩)]]).run Tryz.prog w = .ok (.iface 194 (.agg #[.pointer (some ⟨GB, 59, none⟩)])) w := by kernel_rfl
theorem ra_implementsE (w : World) : (ReflectliteType.relation "Implements" ReflectliteType.implements_ #[.agg #[.pointer (some ⟨GB, 59, none⟩)], .iface 194 (.agg #[.pointer (some ⟨GB, 55, none⟩)])]).run Tryz.prog w = .ok (.bool true) w := by kernel_rfl
theorem ra_typeOfE (v : Value) (w : World) : (ReflectliteType.typeOf #[.iface 59 v]).run Tryz.prog w = .ok (.iface 194 (.agg #[.pointer (some ⟨GB, 59, none⟩)])) w := by kernel_rfl
theorem ra_assignableE (w : World) : (ReflectliteType.relation "AssignableTo" ReflectliteType.assignableTo #[.agg #[.pointer (some ⟨GB, 59, none⟩)], .iface 194 (.agg #[.pointer (some ⟨GB, 59, none⟩)])]).run Tryz.prog w = .ok (.bool true) w := by kernel_rfl
theorem ra_valueOfE (n : Int) (w : World) : (ReflectliteValue.unpack (.iface 59 (.int .i64 n))).run Tryz.prog w
    = .ok (.agg #[.pointer (some ⟨GB, 59, none⟩), .pointer (some ⟨w.heap.size, 0, none⟩), .int .u64 130]) (w.alloc (.cells #[.int .i64 n] 59)) := by kernel_rfl
theorem ra_elemOfP (w : World) : (Rtype.elem? 163).run Tryz.prog w = .ok (some 59) w := by kernel_rfl
theorem ra_mkE (p : Addr) (w : World) : (ReflectliteValue.mk 59 p ReflectliteValue.flagAddr).run Tryz.prog w = .ok (.agg #[.pointer (some ⟨GB, 59, none⟩), .pointer (some p), .int .u64 386]) w := by kernel_rfl
theorem ra_elemVP (a p : Addr) (W : World) (ha : W.cell? a = some (.pointer (some p))) :
    (ReflectliteValue.method (ReflectliteValue.valueError "reflectlite.Value.Elem" 0) ReflectliteValue.elem #[.agg #[.pointer (some ⟨GB, 163, none⟩), .pointer (some a), .int .u64 150]]).run Tryz.prog W
      = .ok (.agg #[.pointer (some ⟨GB, 59, none⟩), .pointer (some p), .int .u64 386]) W := by
  rw [ra_rlm]
  simp only [Sem.run_bind, ra_partsP, Result.andThen]
  simp [ReflectliteValue.elem, loadVar, isAgg, underlying, Tryz.underlying163, ha, Result.andThen, ra_elemOfP, ra_mkE]
theorem ra_rls (v x : Value) : ReflectliteValue.set #[v, x] = (do
    let (some (dst, a, fl), some (src, b, _)) := (← ReflectliteValue.parts v, ← ReflectliteValue.parts x)
      | unsupported (.noEntry "extern/(internal/reflectlite.Value).Set.zeroValue")
    if fl / ReflectliteValue.flagAddr % 2 == 0 then unsupported (.noEntry "extern/(internal/reflectlite.Value).Set.unaddressable")
    let val ← loadVar src b
    if ← Rtype.directlyAssignable dst src then storeVar dst a val
    else if ← Rtype.implements dst src then
      if (← Rtype.kind src) == 20 then
        match val with
        | .nilIface => unsupported (.noEntry "extern/reflectlite: a nil value of one interface type handed on as a value of another")
        | _ => storeVar dst a val
      else storeVar dst a (.iface src val)
    else panicString ("reflectlite.Set: value of type " ++ (← Rtype.spelt src) ++ " is not assignable to type " ++ (← Rtype.spelt dst))
    pure (.tuple #[])) := rfl
theorem ra_partsEa (a : Addr) (w : World) : (ReflectliteValue.parts (.agg #[.pointer (some ⟨GB, 59, none⟩), .pointer (some a), .int .u64 386])).run Tryz.prog w = .ok (some (59, a, 386)) w := by kernel_rfl
theorem ra_partsE (a : Addr) (w : World) : (ReflectliteValue.parts (.agg #[.pointer (some ⟨GB, 59, none⟩), .pointer (some a), .int .u64 130])).run Tryz.prog w = .ok (some (59, a, 130)) w := by kernel_rfl
theorem ra_directE (w : World) : (Rtype.directlyAssignable 59 59).run Tryz.prog w = .ok true w := by kernel_rfl
theorem ra_setE (ta b : Addr) (n : Int) (old : Value) (W : World) (hb : W.cell? b = some (.int .i64 n)) (ht : W.cell? ta = some old) (hf : W.frozen? ta = false) :
    (ReflectliteValue.set #[.agg #[.pointer (some ⟨GB, 59, none⟩), .pointer (some ta), .int .u64 386], .agg #[.pointer (some ⟨GB, 59, none⟩), .pointer (some b), .int .u64 130]]).run Tryz.prog W
      = .ok (.tuple #[]) (W.setCell ta (.int .i64 n)) := by
  rw [ra_rls]
  simp only [Sem.run_bind, ra_partsEa, ra_partsE, Result.andThen]
  simp [ReflectliteValue.flagAddr, loadVar, isAgg, underlying, Tryz.underlying59, hb, Result.andThen, ra_directE, storeVar, Value.cells, storeCells, Addr.add]
  rw [run_store Tryz.prog W ta _ _ (by rfl)]
  simp [ht, hf]
set_option maxRecDepth 100000 in
set_option maxHeartbeats 4000000 in
theorem as_hit (n : Int) (t : Addr) (old : Value) (w : World) (hg : ErrTy w) (ht0 : w.cell? t = some old) (hf0 : w.frozen? t = false) :
    Calls Tryz.prog 111 #[.iface 59 (.int .i64 n), .iface 163 (.pointer (some t))] w fun ev w' => ev = .returned (.bool true) ∧ w' = ((((w.alloc (.cells #[.pointer (some t)] 163)).alloc (.cells #[.pointer (some ⟨GB, 163, none⟩), .pointer (some ⟨w.heap.size, 0, none⟩), .int .u64 150] 176)).alloc (.cells #[.pointer (some ⟨GB, 163, none⟩), .pointer (some ⟨w.heap.size, 0, none⟩), .int .u64 150] 176)).alloc (.cells #[.int .i64 n] 59)).setCell t (.int .i64 n) := by
  have h6 := @run_callFunc_extern Tryz.prog 125 _ (fun args => ReflectliteValue.unpack (args.getD 0 (.tuple #[]))) Tryz.func125 (by kernel_rfl) (by kernel_rfl) (by kernel_rfl) (by kernel_rfl)
  have h7 := @run_callFunc_extern Tryz.prog 126 _ (ReflectliteValue.methodAny (ReflectliteValue.valueError "reflectlite.Value.Type" 0) (fun t _ _ _ => ReflectliteType.toType t)) Tryz.func126 (by kernel_rfl) (by kernel_rfl) (by kernel_rfl) (by kernel_rfl)
  have h8 := @run_callFunc_extern Tryz.prog 127 _ (ReflectliteValue.method (ReflectliteValue.valueError "reflectlite.Value.IsNil" 0) ReflectliteValue.isNil) Tryz.func127 (by kernel_rfl) (by kernel_rfl) (by kernel_rfl) (by kernel_rfl)
  have h27 := @run_callFunc_extern Tryz.prog 157 _ (ReflectliteType.abiMethod fun t => do pure (.int .u8 (← Rtype.kind t))) Tryz.func157 (by kernel_rfl) (by kernel_rfl) (by kernel_rfl) (by kernel_rfl)
  have h37 := @run_callFunc_extern Tryz.prog 169 _ (ReflectliteType.method ReflectliteType.elem) Tryz.func169 (by kernel_rfl) (by kernel_rfl) (by kernel_rfl) (by kernel_rfl)
  have h38 := @run_callFunc_extern Tryz.prog 170 _ (ReflectliteType.relation "Implements" ReflectliteType.implements_) Tryz.func170 (by kernel_rfl) (by kernel_rfl) (by kernel_rfl) (by kernel_rfl)
  have h10 := @run_callFunc_extern Tryz.prog 137 _ ReflectliteType.typeOf Tryz.func137 (by kernel_rfl) (by kernel_rfl) (by kernel_rfl) (by kernel_rfl)
  have h35 := @run_callFunc_extern Tryz.prog 167 _ (ReflectliteType.relation "AssignableTo" ReflectliteType.assignableTo) Tryz.func167 (by kernel_rfl) (by kernel_rfl) (by kernel_rfl) (by kernel_rfl)
  have h11 := @run_callFunc_extern Tryz.prog 138 _ (ReflectliteValue.method (ReflectliteValue.valueError "reflectlite.Value.Elem" 0) ReflectliteValue.elem) Tryz.func138 (by kernel_rfl) (by kernel_rfl) (by kernel_rfl) (by kernel_rfl)
  have h12 := @run_callFunc_extern Tryz.prog 139 _ ReflectliteValue.set Tryz.func139 (by kernel_rfl) (by kernel_rfl) (by kernel_rfl) (by kernel_rfl)
  have tO := ra_typeOfE
  have a25 := ra_assignableE
  have v25 := ra_valueOfE
  have f6 := ra_valueOfP
  have f7 := ra_typeP
  have mK := ra_mKind
  have mE := ra_mElem
  have mI := ra_mImpl
  have mA := ra_mAssign
  have k27 := ra_kindP
  have k25 := ra_kindE
  have e27 := ra_elemP
  have i25 := ra_implementsE
  have hglt : 2 < w.heap.size := by
    rcases Nat.lt_or_ge 2 w.heap.size with h | h
    · exact h
    · unfold ErrTy at hg; simp [World.cell?, Array.getElem?_eq_none h] at hg
  have hg1 : w.cell? ⟨2, 0, none⟩ = some (.iface 194 (.agg #[.pointer (some ⟨GB, 55, none⟩)])) := hg
  have n8 := ra_isNilP ⟨w.heap.size, 0, none⟩ t ((w.alloc (.cells #[.pointer (some t)] 163)).alloc (.cells #[.pointer (some ⟨GB, 163, none⟩), .pointer (some ⟨w.heap.size, 0, none⟩), .int .u64 150] 176)) (by simp)
  have hg2 : ((w.alloc (.cells #[.pointer (some t)] 163)).alloc (.cells #[.pointer (some ⟨GB, 163, none⟩), .pointer (some ⟨w.heap.size, 0, none⟩), .int .u64 150] 176)).cell? ⟨2, 0, none⟩ = some (.iface 194 (.agg #[.pointer (some ⟨GB, 55, none⟩)])) := by
    rw [World.cell?_alloc_lt _ _ ⟨2, 0, none⟩ (by first | (simp; done) | (simp; omega)), World.cell?_alloc_lt _ _ ⟨2, 0, none⟩ hglt]; exact hg1
  have htl : t.block < w.heap.size := by
    rcases Nat.lt_or_ge t.block w.heap.size with h | h
    · exact h
    · simp [World.cell?, Array.getElem?_eq_none h] at ht0
  have el := ra_elemVP ⟨w.heap.size, 0, none⟩ t (((w.alloc (.cells #[.pointer (some t)] 163)).alloc (.cells #[.pointer (some ⟨GB, 163, none⟩), .pointer (some ⟨w.heap.size, 0, none⟩), .int .u64 150] 176)).alloc (.cells #[.pointer (some ⟨GB, 163, none⟩), .pointer (some ⟨w.heap.size, 0, none⟩), .int .u64 150] 176)) (by rw [World.cell?_alloc_lt _ _ ⟨w.heap.size, 0, none⟩ (by simp; omega)]; simp)
  have st := ra_setE t ⟨w.heap.size + 1 + 1 + 1, 0, none⟩ n old ((((w.alloc (.cells #[.pointer (some t)] 163)).alloc (.cells #[.pointer (some ⟨GB, 163, none⟩), .pointer (some ⟨w.heap.size, 0, none⟩), .int .u64 150] 176)).alloc (.cells #[.pointer (some ⟨GB, 163, none⟩), .pointer (some ⟨w.heap.size, 0, none⟩), .int .u64 150] 176)).alloc (.cells #[.int .i64 n] 59))
    (by rw [World.cell?_alloc_at _ _ _ _ (by simp)]; rfl)
    (by rw [World.cell?_alloc_lt _ _ t (by simp; omega), World.cell?_alloc_lt _ _ t (by simp; omega), World.cell?_alloc_lt _ _ t (by simp; omega), World.cell?_alloc_lt _ _ t htl]; exact ht0)
    (by rw [World.frozen?_alloc_old _ _ t (by simp; omega), World.frozen?_alloc_old _ _ t (by simp; omega), World.frozen?_alloc_old _ _ t (by simp; omega), World.frozen?_alloc_old _ _ t (Nat.ne_of_lt htl)]; exact hf0)
  clear hg
  go_enter Tryz.func111, Tryz.ntmps111
  go_wp2
  refine wp_loop_rounds 1 ?_
  rw [rounds_succ]
  go_wp2
  go_ret
  exact ⟨rfl, rfl⟩
end Go.Proofs.YteclajckkjocnaaGreatDoor
namespace Go.Proofs.YteclajckkjocnaaGreatDoor
open Go.RowKit
set_option linter.unusedSimpArgs false
theorem errTy_below {w w' : World} (h : ErrTy w) (hb : Below w.heap.size w w') : ErrTy w' := by
  have hlt : 2 < w.heap.size := by
    rcases Nat.lt_or_ge 2 w.heap.size with h' | h'
    · exact h'
    · unfold ErrTy at h; simp [World.cell?, Array.getElem?_eq_none h'] at h
  exact (hb.cell (p := ⟨_, 0, none⟩) hlt).trans h
set_option maxHeartbeats 1000000 in
theorem tell_nil (w : World) :
    Calls Tryz.prog 98 #[.nilIface] w fun e w' => e = .returned (.int .i64 0) ∧ w = w' := by
  go_enter Tryz.func98, Tryz.ntmps98
  go_wp2_with fail
  go_ret
  exact ⟨rfl, rfl⟩
set_option maxRecDepth 100000 in
set_option maxHeartbeats 4000000 in
theorem tell_errno (n : Int) (w : World) (hE : ErrTy w) :
    Calls Tryz.prog 98 #[.iface 59 (.int .i64 n)] w fun e w' => e = .returned (.int .i64 n) ∧ Below w.heap.size w w' := by
  have hA : ErrTy (w.alloc (.cells #[.int .i64 0] 59)) := errTy_below hE ((Below.refl _ _).alloc (Nat.le_refl _) _)
  have cA := as_hit n ⟨w.heap.size, 0, none⟩ (.int .i64 0) (w.alloc (.cells #[.int .i64 0] 59)) hA (by simp) (by simp)
  go_enter Tryz.func98, Tryz.ntmps98
  go_wp2_with (go_at_call 111; refine cA.mono ?_; rintro e w' ⟨rfl, rfl⟩)
  go_ret
  exact ⟨rfl, (((((Below.refl _ _).alloc (Nat.le_refl _) _).alloc (by simp) _).alloc (by simp; omega) _).alloc (by simp; omega) _).alloc (by simp; omega) _⟩
set_option maxHeartbeats 1000000 in
theorem place_nil (w : World) :
    Calls Tryz.prog 73 #[.nilIface] w fun e w' => e = .returned (.tuple #[.int .i64 0, .int .i64 (-1)]) ∧ w = w' := by
  go_enter Tryz.func73, Tryz.ntmps73
  go_wp2_with (go_at_call 98; refine (tell_nil _).mono ?_; rintro e w' ⟨rfl, rfl⟩)
  refine wp_loop_rounds 1 ?_
  rw [rounds_succ]
  go_wp2_with fail
  go_ret2
  exact ⟨rfl, rfl⟩
set_option maxRecDepth 100000 in
set_option maxHeartbeats 1000000 in
theorem place_errno (n : Int) (w : World) (hE : ErrTy w) :
    Calls Tryz.prog 73 #[.iface 59 (.int .i64 n)] w fun e w' => e = .returned (.tuple #[.int .i64 n, .int .i64 (-1)]) ∧ Below w.heap.size w w' := by
  have ta : ∀ W : World, (Instr.typeAssert (.iface 59 (.int .i64 n)) 55 144 true).run Tryz.prog W = .ok (.tuple #[.pointer none, .bool false]) W := fun W => by kernel_rfl
  have tu := @Go.run_typeAssert_lacksB Tryz.prog 59 147 .nilIface _ Tryz.underlying147 (by kernel_rfl) (by kernel_rfl) (.int .i64 n) 55
  go_enter Tryz.func73, Tryz.ntmps73
  go_wp2_with (go_at_call 98; refine (tell_errno n _ hE).mono ?_; rintro e w1 ⟨rfl, hb1⟩)
  refine wp_loop_rounds 1 ?_
  rw [rounds_succ]
  go_wp2_with fail
  go_ret2
  exact ⟨rfl, hb1⟩
set_option maxHeartbeats 1000000 in
theorem bare_make (m : Int) (w : World) :
    Calls Tryz.prog 50 #[.int .i64 m] w fun e w' => e = .returned (.agg #[.int .i64 m, .int .i64 (-1)]) ∧ Below w.heap.size w w' := by
  go_enter Tryz.func50, Tryz.ntmps50
  go_wp2_with fail
  exact bodyPost_ret (v := .agg #[.int .i64 m, .int .i64 (-1)]) (by simp [results, Tryz.results50, go_sem]) rfl ⟨rfl, (Below.refl _ _).alloc (Nat.le_refl _) _⟩
set_option maxRecDepth 100000 in
set_option maxHeartbeats 1000000 in
theorem is_nil (m : Int) (w : World) :
    Calls Tryz.prog 49 #[.nilIface, .agg #[.int .i64 m, .int .i64 (-1)]] w fun e w' => e = .returned (.bool ((0 : Int) == m)) ∧ Below w.heap.size w w' := by
  cases hm : ((0 : Int) == m)
  · have hne : ¬ (0 : Int) = m := by simpa using hm
    go_enter Tryz.func49, Tryz.ntmps49
    go_wp2_with (go_at_call 73; refine (place_nil _).mono ?_; rintro e w1 ⟨rfl, rfl⟩)
    go_ret
    exact ⟨rfl, (Below.refl _ _).alloc (Nat.le_refl _) _⟩
  · have hee : (0 : Int) = m := by simpa using hm
    subst hee
    clear hm
    go_enter Tryz.func49, Tryz.ntmps49
    go_wp2_with (go_at_call 73; refine (place_nil _).mono ?_; rintro e w1 ⟨rfl, rfl⟩)
    go_ret
    exact ⟨rfl, (Below.refl _ _).alloc (Nat.le_refl _) _⟩
set_option maxRecDepth 100000 in
set_option maxHeartbeats 1000000 in
theorem bare_nil (m : Int) (w : World) :
    Calls Tryz.prog 25 #[.nilIface, .int .i64 m] w fun e w' => e = .returned (.bool ((0 : Int) == m)) ∧ Below w.heap.size w w' := by
  go_enter Tryz.func25, Tryz.ntmps25
  go_wp2_with (first | (go_at_call 50; refine (bare_make m _).mono ?_; rintro e w1 ⟨rfl, hb1⟩) | (go_at_call 49; refine (is_nil m _).mono ?_; rintro e w2 ⟨rfl, hb2⟩))
  go_ret
  exact ⟨rfl, hb1.trans (hb2.mono hb1.size)⟩
set_option maxRecDepth 100000 in
set_option maxHeartbeats 1000000 in
theorem is_err (n m : Int) (w : World) (hE : ErrTy w) :
    Calls Tryz.prog 49 #[.iface 59 (.int .i64 n), .agg #[.int .i64 m, .int .i64 (-1)]] w fun e w' => e = .returned (.bool (n == m)) ∧ Below w.heap.size w w' := by
  cases hm : (n == m)
  · have hne : ¬ n = m := by simpa using hm
    go_enter Tryz.func49, Tryz.ntmps49
    go_wp2_with (go_at_call 73; refine (place_errno n (w.alloc _) (by exact errTy_below hE ((Below.refl _ _).alloc (Nat.le_refl _) _))).mono ?_; rintro e w1 ⟨rfl, hb1⟩; have c0 : w1.cell? ⟨w.heap.size, 0, none⟩ = some (.int .i64 m) := by { rw [hb1.cell (p := ⟨w.heap.size, 0, none⟩) (by simp)]; simp }; have c1 : w1.cell? ⟨w.heap.size, 1, none⟩ = some (.int .i64 (-1)) := by { rw [hb1.cell (p := ⟨w.heap.size, 1, none⟩) (by simp)]; simp })
    go_ret
    exact ⟨rfl, ((Below.refl _ _).alloc (Nat.le_refl _) _).trans (hb1.mono (by simp))⟩
  · have hee : n = m := by simpa using hm
    subst hee
    clear hm
    go_enter Tryz.func49, Tryz.ntmps49
    go_wp2_with (go_at_call 73; refine (place_errno n (w.alloc _) (by exact errTy_below hE ((Below.refl _ _).alloc (Nat.le_refl _) _))).mono ?_; rintro e w1 ⟨rfl, hb1⟩; have c0 : w1.cell? ⟨w.heap.size, 0, none⟩ = some (.int .i64 n) := by { rw [hb1.cell (p := ⟨w.heap.size, 0, none⟩) (by simp)]; simp }; have c1 : w1.cell? ⟨w.heap.size, 1, none⟩ = some (.int .i64 (-1)) := by { rw [hb1.cell (p := ⟨w.heap.size, 1, none⟩) (by simp)]; simp })
    go_ret
    exact ⟨rfl, ((Below.refl _ _).alloc (Nat.le_refl _) _).trans (hb1.mono (by simp))⟩
set_option maxRecDepth 100000 in
set_option maxHeartbeats 1000000 in
theorem bare_err (n m : Int) (w : World) (hE : ErrTy w) :
    Calls Tryz.prog 25 #[.iface 59 (.int .i64 n), .int .i64 m] w fun e w' => e = .returned (.bool (n == m)) ∧ Below w.heap.size w w' := by
  go_enter Tryz.func25, Tryz.ntmps25
  go_wp2_with (first | (go_at_call 50; refine (bare_make m _).mono ?_; rintro e w1 ⟨rfl, hb1⟩) | (go_at_call 49; refine (is_err n m _ (errTy_below hE hb1)).mono ?_; rintro e w2 ⟨rfl, hb2⟩))
  go_ret
  exact ⟨rfl, hb1.trans (hb2.mono hb1.size)⟩
end Go.Proofs.YteclajckkjocnaaGreatDoor
