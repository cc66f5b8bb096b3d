/-
  Joined: Err, ErrA, ErrB, ErrN, ErrP.
-/
import Derived.Test.YtgjelinnpcekmaaGreatDoorKit
import Derived.Test.YtgjelinnpcekmaaGreatDoorProg
import Derived.WalkKit
import Derived.LaidEql
import Derived.Lib.IfaceEq
import Derived.Stop.Asserts
import Derived.RowKitTokens
import Derived.Laws.Tables
import Derived.BigQuiet
import Derived.Deep.QuietTactic
import Derived.Deep.RegionHeld3
import Derived.OwnWalk
namespace Go.Proofs.YtgjelinnpcekmaaGreatDoor
open Go.RowKit Go.Extern.Stop Go.Stop Go.Extern
namespace Err

theorem comp75 : (Tryz.prog.info? 85).map (·.comparable) = some true := by kernel_rfl
theorem isTypeOf (v : Value) (w : World) : (Extern.ReflectliteType.typeOf #[.iface 85 v]).run Tryz.prog w = .ok (.iface 125 (.agg #[.pointer (some ⟨7, 85, none⟩)])) w := by kernel_rfl
/-- The model's entry for (rtype).Comparable, under one name. -/
def cmpEntry : Array Value → Sem Value := Extern.ReflectliteType.method fun t => do Extern.Rtype.noPackHeld "Comparable" t; pure (.bool (← typeInfo t).comparable)
theorem isComparable (w : World) : (cmpEntry #[.agg #[.pointer (some ⟨7, 85, none⟩)]]).run Tryz.prog w = .ok (.bool true) w := by kernel_rfl
theorem isMethodComparable (v : Value) (w : World) : (Go.method 279 125 v "Comparable").run Tryz.prog w = .ok (116, v) w := by kernel_rfl
theorem noIsE (v : Value) (xT : TypeId) (w : World) : (Instr.typeAssert (.iface 85 v) xT 142 true).run Tryz.prog w = .ok (.tuple #[.nilIface, .bool false]) w := run_typeAssert_lacksB Tryz.underlying142 (by kernel_rfl) (by kernel_rfl) v xT w
theorem noIsF (v : Value) (xT : TypeId) (w : World) : (Instr.typeAssert (.iface 87 v) xT 142 true).run Tryz.prog w = .ok (.tuple #[.nilIface, .bool false]) w := run_typeAssert_lacksB Tryz.underlying142 (by kernel_rfl) (by kernel_rfl) v xT w
theorem noAsE (v : Value) (xT : TypeId) (w : World) : (Instr.typeAssert (.iface 85 v) xT 129 true).run Tryz.prog w = .ok (.tuple #[.nilIface, .bool false]) w := run_typeAssert_lacksB Tryz.underlying129 (by kernel_rfl) (by kernel_rfl) v xT w
theorem noUnwrapE (v : Value) (xT : TypeId) (w : World) : (Instr.typeAssert (.iface 85 v) xT 132 true).run Tryz.prog w = .ok (.tuple #[.nilIface, .bool false]) w := run_typeAssert_lacksB Tryz.underlying132 (by kernel_rfl) (by kernel_rfl) v xT w
theorem noUnwrapsE (v : Value) (xT : TypeId) (w : World) : (Instr.typeAssert (.iface 85 v) xT 134 true).run Tryz.prog w = .ok (.tuple #[.nilIface, .bool false]) w := run_typeAssert_lacksB Tryz.underlying134 (by kernel_rfl) (by kernel_rfl) v xT w
theorem hasUnwrapF (v : Value) (xT : TypeId) (w : World) : (Instr.typeAssert (.iface 87 v) xT 132 true).run Tryz.prog w = .ok (.tuple #[.iface 87 v, .bool true]) w := run_typeAssert_hasB Tryz.underlying132 (by kernel_rfl) v xT w
theorem methodUnwrap (v : Value) (w : World) : (Go.method 279 87 v "Unwrap").run Tryz.prog w = .ok (110, v) w := by kernel_rfl

/-- An error that is a number, or a number with its place. -/
def errno (k : Nat) : Value := .iface 85 (.int .i64 k)
def fault (k l a : Nat) : Value := .iface 87 (.agg #[.int .i64 k, .int .i64 l, .int .i64 a])

set_option maxHeartbeats 1000000 in
theorem is_errno (k n : Nat) (w : World) : Calls Tryz.prog 67 #[.iface 85 (.int .i64 k), .iface 85 (.int .i64 n)] w fun e w' => e = .returned (.bool (decide (k = n))) ∧ w = w' := by
  have h8 := @run_callFunc_extern Tryz.prog 75 _ Extern.ReflectliteType.typeOf Tryz.func75 (by kernel_rfl) (by kernel_rfl) (by kernel_rfl) (by kernel_rfl)
  have h32 := @run_callFunc_extern Tryz.prog 116 _ cmpEntry Tryz.func116 (by kernel_rfl) (by kernel_rfl) (by kernel_rfl) (by kernel_rfl)
  have tT := isTypeOf
  have cT := isComparable
  have mR := isMethodComparable
  have nE := noIsE
  have uE := noUnwrapE
  have vE := noUnwrapsE
  have heq : ∀ wx : World, (binOp .eql 46 (.iface 85 (.int .i64 k)) (.iface 85 (.int .i64 n))).run Tryz.prog wx = .ok (.bool ((k : Int) == n)) wx := fun wx => Lib.run_eql_iface_int wx _ _ Tryz.underlying46 comp75 Tryz.underlying85
  by_cases hkn : k = n
  · subst hkn
    rw [decide_eq_true rfl]
    go_enter Tryz.func67, Tryz.ntmps67
    go_wp2
    refine wp_loop_rounds 1 ?_
    rw [rounds_succ]
    go_wp2
    go_ret
    exact ⟨rfl, rfl⟩
  · rw [decide_eq_false hkn]
    have hne : ((k : Int) == n) = false := by rw [beq_eq_false_iff_ne]; omega
    rw [hne] at heq
    go_enter Tryz.func67, Tryz.ntmps67
    go_wp2
    refine wp_loop_rounds 1 ?_
    rw [rounds_succ]
    go_wp2
    go_ret
    exact ⟨rfl, rfl⟩

set_option maxHeartbeats 1000000 in
theorem is_fault (k l a n : Nat) (w : World) : Calls Tryz.prog 67 #[.iface 87 (.agg #[.int .i64 k, .int .i64 l, .int .i64 a]), .iface 85 (.int .i64 n)] w fun e w' => e = .returned (.bool (decide (k = n))) ∧ Below w.heap.size w w' := by
  have h8 := @run_callFunc_extern Tryz.prog 75 _ Extern.ReflectliteType.typeOf Tryz.func75 (by kernel_rfl) (by kernel_rfl) (by kernel_rfl) (by kernel_rfl)
  have h32 := @run_callFunc_extern Tryz.prog 116 _ cmpEntry Tryz.func116 (by kernel_rfl) (by kernel_rfl) (by kernel_rfl) (by kernel_rfl)
  have tT := isTypeOf
  have cT := isComparable
  have mR := isMethodComparable
  have nE := noIsE
  have nF := noIsF
  have uE := noUnwrapE
  have vE := noUnwrapsE
  have uF := hasUnwrapF
  have mU := methodUnwrap
  have hty : ∀ wx : World, (binOp .eql 46 (.iface 87 (.agg #[.int .i64 k, .int .i64 l, .int .i64 a])) (.iface 85 (.int .i64 n))).run Tryz.prog wx = .ok (.bool false) wx := fun wx => run_eql_iface_types (P := Tryz.prog) _ _ _ _ Tryz.underlying46 (by decide) wx
  have heq : ∀ wx : World, (binOp .eql 46 (.iface 85 (.int .i64 k)) (.iface 85 (.int .i64 n))).run Tryz.prog wx = .ok (.bool ((k : Int) == n)) wx := fun wx => Lib.run_eql_iface_int wx _ _ Tryz.underlying46 comp75 Tryz.underlying85
  by_cases hkn : k = n
  · subst hkn
    rw [decide_eq_true rfl]
    go_enter Tryz.func67, Tryz.ntmps67
    go_wp2
    refine wp_loop_rounds 2 ?_
    rw [rounds_succ]
    go_wp2
    rw [rounds_succ]
    go_wp2
    go_ret
    exact ⟨rfl, by repeat (first | exact Below.refl _ _ | refine Below.alloc ?_ (by simp) _)⟩
  · rw [decide_eq_false hkn]
    have hne : ((k : Int) == n) = false := by rw [beq_eq_false_iff_ne]; omega
    rw [hne] at heq
    go_enter Tryz.func67, Tryz.ntmps67
    go_wp2
    refine wp_loop_rounds 2 ?_
    rw [rounds_succ]
    go_wp2
    rw [rounds_succ]
    go_wp2
    go_ret
    exact ⟨rfl, by repeat (first | exact Below.refl _ _ | refine Below.alloc ?_ (by simp) _)⟩
end Err
end Go.Proofs.YtgjelinnpcekmaaGreatDoor
namespace Go.Proofs.YtgjelinnpcekmaaGreatDoor
open Go.RowKit Go.Extern.Stop Go.Stop Go.Extern
namespace Err

/-- What the library's variable errors.errorType holds. -/
def errType : Value := .iface 125 (.agg #[.pointer (some ⟨7, 46, none⟩)])
/-- The library's variable errors.errorType, as errors.As reads it. -/
def ErrTab (w : World) : Prop := w.cell? ⟨3, 0, none⟩ = some errType

theorem valueOfP (t : Addr) (w : World) : (ReflectliteValue.unpack (.iface 97 (.pointer (some t)))).run Tryz.prog w
    = .ok (.agg #[.pointer (some ⟨7, 97, none⟩), .pointer (some ⟨w.heap.size, 0, none⟩), .int .u64 150]) (w.alloc (.cells #[.pointer (some t)] 97)) := by kernel_rfl
theorem typeP (a : Addr) (w : World) : (ReflectliteValue.methodAny (ReflectliteValue.valueError "reflectlite.Value.Type" 0) (fun t _ _ _ => ReflectliteType.toType t) #[.agg #[.pointer (some ⟨7, 97, none⟩), .pointer (some a), .int .u64 150]]).run Tryz.prog w
    = .ok (.iface 125 (.agg #[.pointer (some ⟨7, 97, none⟩)])) w := by kernel_rfl
theorem methodKind (h : Value) (w : World) : (Go.method 279 125 (.agg #[h]) "Kind").run Tryz.prog w = .ok (104, h) w := by kernel_rfl
theorem kindP (w : World) : ((ReflectliteType.abiMethod fun t => (fun a : Nat => Value.int IntKind.u8 (a : Int)) <$> Rtype.kind t) #[.pointer (some ⟨7, 97, none⟩)]).run Tryz.prog w = .ok (.int .u8 22) w := by kernel_rfl
theorem kindF (w : World) : ((ReflectliteType.abiMethod fun t => (fun a : Nat => Value.int IntKind.u8 (a : Int)) <$> Rtype.kind t) #[.pointer (some ⟨7, 87, none⟩)]).run Tryz.prog w = .ok (.int .u8 25) w := by kernel_rfl
theorem rlm (z : Sem Value) (f : TypeId → Addr → Nat → Nat → Sem Value) (v : Value) :
    ReflectliteValue.method z f #[v] = (do match ← ReflectliteValue.parts v with | none => z | some (t, a, fl) => f t a fl (fl % 32)) := rfl
theorem partsP (a : Addr) (w : World) : (ReflectliteValue.parts (.agg #[.pointer (some ⟨7, 97, none⟩), .pointer (some a), .int .u64 150])).run Tryz.prog w = .ok (some (97, a, 150)) w := by kernel_rfl
theorem isNilP (a p : Addr) (W : World) (ha : W.cell? a = some (.pointer (some p))) :
    (ReflectliteValue.method (ReflectliteValue.valueError "reflectlite.Value.IsNil" 0) ReflectliteValue.isNil #[.agg #[.pointer (some ⟨7, 97, none⟩), .pointer (some a), .int .u64 150]]).run Tryz.prog W = .ok (.bool false) W := by
  rw [rlm]
  simp only [Sem.run_bind, partsP, Result.andThen]
  simp [ReflectliteValue.isNil, loadVar, isAgg, underlying, Tryz.underlying97, ha, Result.andThen]
theorem methodElem (h : Value) (w : World) : (Go.method 279 125 (.agg #[h]) "Elem").run Tryz.prog w = .ok (117, .agg #[h]) w := by kernel_rfl
theorem methodImplements (h : Value) (w : World) : (Go.method 279 125 (.agg #[h]) "Implements").run Tryz.prog w = .ok (118, .agg #[h]) w := by kernel_rfl
theorem methodAssignableTo (h : Value) (w : World) : (Go.method 279 125 (.agg #[h]) "AssignableTo").run Tryz.prog w = .ok (115, .agg #[h]) w := by kernel_rfl
theorem elemP (w : World) : (ReflectliteType.method ReflectliteType.elem #[.agg #[.pointer (some ⟨7, 97, none⟩)]]).run Tryz.prog w = .ok (.iface 125 (.agg #[.pointer (some ⟨7, 87, none⟩)])) w := by kernel_rfl
theorem implementsF (w : World) : (ReflectliteType.relation "Implements" ReflectliteType.implements_ #[.agg #[.pointer (some ⟨7, 87, none⟩)], .iface 125 (.agg #[.pointer (some ⟨7, 46, none⟩)])]).run Tryz.prog w = .ok (.bool true) w := by kernel_rfl
theorem typeOfF (v : Value) (w : World) : (ReflectliteType.typeOf #[.iface 87 v]).run Tryz.prog w = .ok (.iface 125 (.agg #[.pointer (some ⟨7, 87, none⟩)])) w := by kernel_rfl
theorem assignableFF (w : World) : (ReflectliteType.relation "AssignableTo" ReflectliteType.assignableTo #[.agg #[.pointer (some ⟨7, 87, none⟩)], .iface 125 (.agg #[.pointer (some ⟨7, 87, none⟩)])]).run Tryz.prog w = .ok (.bool true) w := by kernel_rfl
theorem assignableEF (w : World) : (ReflectliteType.relation "AssignableTo" ReflectliteType.assignableTo #[.agg #[.pointer (some ⟨7, 85, none⟩)], .iface 125 (.agg #[.pointer (some ⟨7, 87, none⟩)])]).run Tryz.prog w = .ok (.bool false) w := by kernel_rfl
theorem valueOfF (x y z : Value) (w : World) : (ReflectliteValue.unpack (.iface 87 (.agg #[x, y, z]))).run Tryz.prog w
    = .ok (.agg #[.pointer (some ⟨7, 87, none⟩), .pointer (some ⟨w.heap.size, 0, none⟩), .int .u64 153]) (w.alloc (.cells #[x, y, z] 87)) := by kernel_rfl
theorem elemOfP (w : World) : (Rtype.elem? 97).run Tryz.prog w = .ok (some 87) w := by kernel_rfl
theorem mkF (p : Addr) (w : World) : (ReflectliteValue.mk 87 p ReflectliteValue.flagAddr).run Tryz.prog w = .ok (.agg #[.pointer (some ⟨7, 87, none⟩), .pointer (some p), .int .u64 409]) w := by kernel_rfl
theorem elemV (a p : Addr) (W : World) (ha : W.cell? a = some (.pointer (some p))) :
    (ReflectliteValue.method (ReflectliteValue.valueError "reflectlite.Value.Elem" 0) ReflectliteValue.elem #[.agg #[.pointer (some ⟨7, 97, none⟩), .pointer (some a), .int .u64 150]]).run Tryz.prog W
      = .ok (.agg #[.pointer (some ⟨7, 87, none⟩), .pointer (some p), .int .u64 409]) W := by
  rw [rlm]
  simp only [Sem.run_bind, partsP, Result.andThen]
  simp [ReflectliteValue.elem, loadVar, isAgg, underlying, Tryz.underlying97, ha, Result.andThen, elemOfP, mkF]
theorem rls (v x : Value) : ReflectliteValue.set #[v, x] = (do
    let (some (dst, a, fl), some (src, b, _)) := (← ReflectliteValue.parts v, ← ReflectliteValue.parts x)
      | unsupported (.noEntry "extern/(internal/reflectlite.Value).Set.zeroValue")
    if fl / ReflectliteValue.flagAddr % 2 == 0 then unsupported (.noEntry "extern/(internal/reflectlite.Value).Set.unaddressable")
    let val ← loadVar src b
    if ← Rtype.directlyAssignable dst src then storeVar dst a val
    else if ← Rtype.implements dst src then
      if (← Rtype.kind src) == 20 then
        match val with
        | .nilIface => unsupported (.noEntry "extern/reflectlite: a nil value of one interface type handed on as a value of another")
        | _ => storeVar dst a val
      else storeVar dst a (.iface src val)
    else panicString ("reflectlite.Set: value of type " ++ (← Rtype.spelt src) ++ " is not assignable to type " ++ (← Rtype.spelt dst))
    pure (.tuple #[])) := rfl
theorem partsFa (a : Addr) (w : World) : (ReflectliteValue.parts (.agg #[.pointer (some ⟨7, 87, none⟩), .pointer (some a), .int .u64 409])).run Tryz.prog w = .ok (some (87, a, 409)) w := by kernel_rfl
theorem partsF (a : Addr) (w : World) : (ReflectliteValue.parts (.agg #[.pointer (some ⟨7, 87, none⟩), .pointer (some a), .int .u64 153])).run Tryz.prog w = .ok (some (87, a, 153)) w := by kernel_rfl
theorem directF (w : World) : (Rtype.directlyAssignable 87 87).run Tryz.prog w = .ok true w := by kernel_rfl
theorem infoF : (Tryz.prog.info? 87).map (·.size) = some 3 := by kernel_rfl
theorem setF (g b : Nat) (x y z : Value) (old : Array Value) (W : World) (hb : W.heap[b]? = some (.cells #[x, y, z] 87 (0, 0))) (ht : W.heap[g]? = some (.cells old 87 (0, 0))) (ho : old.size = 3)
    (h1 : (#[x, y, z] : Array Value).all (·.oneCell') = true) :
    (ReflectliteValue.set #[.agg #[.pointer (some ⟨7, 87, none⟩), .pointer (some ⟨g, 0, none⟩), .int .u64 409], .agg #[.pointer (some ⟨7, 87, none⟩), .pointer (some ⟨b, 0, none⟩), .int .u64 153]]).run Tryz.prog W
      = .ok (.tuple #[]) (W.setRow g #[x, y, z]) := by
  have hl := run_loadVar_row (P := Tryz.prog) W b 87 87 #[x, y, z] (0, 0) _ hb Tryz.underlying87 rfl infoF
  have hs := run_storeVar_row (P := Tryz.prog) W g 87 87 old #[x, y, z] ht infoF (by simp [ho]) h1
  rw [rls]
  simp only [Sem.run_bind, partsFa, partsF, Result.andThen]
  simp [ReflectliteValue.flagAddr, Result.andThen, directF, hl, hs]
end Err
end Go.Proofs.YtgjelinnpcekmaaGreatDoor
namespace Go.Proofs.YtgjelinnpcekmaaGreatDoor
open Go.RowKit Go.Extern.Stop Go.Stop Go.Extern
namespace Err

theorem as_nil (t : Value) (w : World) : Calls Tryz.prog 56 #[.nilIface, t] w fun e w' => e = .returned (.bool false) ∧ w = w' := by
  go_enter Tryz.func56, Tryz.ntmps56
  go_wp2
  go_ret
  exact ⟨rfl, rfl⟩

theorem alloc_at (w : World) (o : Obj) (i : Nat) (h : i = w.heap.size) : (w.alloc o).heap[i]? = some o := by subst h; exact heap_alloc_new w o
theorem errTab_lt {w : World} (h : ErrTab w) : 3 < w.heap.size := by
  unfold ErrTab at h
  rcases Nat.lt_or_ge 3 w.heap.size with hlt | hge
  · exact hlt
  · unfold World.cell? at h; rw [Array.getElem?_eq_none hge] at h; cases h

set_option maxHeartbeats 4000000 in
theorem as_fault (k l a g : Nat) (old : Array Value) (w : World) (hg : ErrTab w) (ht0 : w.heap[g]? = some (.cells old 87 (0, 0))) (ho : old.size = 3) (hgl : 3 < g) :
    Calls Tryz.prog 56 #[.iface 87 (.agg #[.int .i64 k, .int .i64 l, .int .i64 a]), .iface 97 (.pointer (some ⟨g, 0, none⟩))] w
      fun ev w' => ev = .returned (.bool true) ∧ Below g w w' ∧ w.heap.size ≤ w'.heap.size ∧ w'.heap[g]? = some (.cells #[.int .i64 k, .int .i64 l, .int .i64 a] 87 (0, 0)) := by
  have h6 := @run_callFunc_extern Tryz.prog 68 _ (fun args => ReflectliteValue.unpack (args.getD 0 (.tuple #[]))) Tryz.func68 (by kernel_rfl) (by kernel_rfl) (by kernel_rfl) (by kernel_rfl)
  have h7 := @run_callFunc_extern Tryz.prog 69 _ (ReflectliteValue.methodAny (ReflectliteValue.valueError "reflectlite.Value.Type" 0) (fun t _ _ _ => ReflectliteType.toType t)) Tryz.func69 (by kernel_rfl) (by kernel_rfl) (by kernel_rfl) (by kernel_rfl)
  have h8 := @run_callFunc_extern Tryz.prog 70 _ (ReflectliteValue.method (ReflectliteValue.valueError "reflectlite.Value.IsNil" 0) ReflectliteValue.isNil) Tryz.func70 (by kernel_rfl) (by kernel_rfl) (by kernel_rfl) (by kernel_rfl)
  have h27 := @run_callFunc_extern Tryz.prog 104 _ (ReflectliteType.abiMethod fun t => do pure (.int .u8 (← Rtype.kind t))) Tryz.func104 (by kernel_rfl) (by kernel_rfl) (by kernel_rfl) (by kernel_rfl)
  have h37 := @run_callFunc_extern Tryz.prog 117 _ (ReflectliteType.method ReflectliteType.elem) Tryz.func117 (by kernel_rfl) (by kernel_rfl) (by kernel_rfl) (by kernel_rfl)
  have h38 := @run_callFunc_extern Tryz.prog 118 _ (ReflectliteType.relation "Implements" ReflectliteType.implements_) Tryz.func118 (by kernel_rfl) (by kernel_rfl) (by kernel_rfl) (by kernel_rfl)
  have h10 := @run_callFunc_extern Tryz.prog 75 _ ReflectliteType.typeOf Tryz.func75 (by kernel_rfl) (by kernel_rfl) (by kernel_rfl) (by kernel_rfl)
  have h35 := @run_callFunc_extern Tryz.prog 115 _ (ReflectliteType.relation "AssignableTo" ReflectliteType.assignableTo) Tryz.func115 (by kernel_rfl) (by kernel_rfl) (by kernel_rfl) (by kernel_rfl)
  have h11 := @run_callFunc_extern Tryz.prog 77 _ (ReflectliteValue.method (ReflectliteValue.valueError "reflectlite.Value.Elem" 0) ReflectliteValue.elem) Tryz.func77 (by kernel_rfl) (by kernel_rfl) (by kernel_rfl) (by kernel_rfl)
  have h12 := @run_callFunc_extern Tryz.prog 78 _ ReflectliteValue.set Tryz.func78 (by kernel_rfl) (by kernel_rfl) (by kernel_rfl) (by kernel_rfl)
  have tO := typeOfF
  have mA := methodAssignableTo
  have aF := assignableFF
  have vF := valueOfF
  have f6 := valueOfP
  have f7 := typeP
  have mK := methodKind
  have mE := methodElem
  have mI := methodImplements
  have kP := kindP
  have kF := kindF
  have eP := elemP
  have iF := implementsF
  have hlt : g < w.heap.size := by
    rcases Nat.lt_or_ge g w.heap.size with h | h
    · exact h
    · rw [Array.getElem?_eq_none h] at ht0; cases ht0
  have C1 : Value := .pointer (some ⟨g, 0, none⟩)
  clear C1
  have n8 := isNilP ⟨w.heap.size, 0, none⟩ ⟨g, 0, none⟩ ((w.alloc (.cells #[.pointer (some ⟨g, 0, none⟩)] 97)).alloc (.cells #[.pointer (some ⟨7, 97, none⟩), .pointer (some ⟨w.heap.size, 0, none⟩), .int .u64 150] 111)) (by simp)
  have hg2 : ((w.alloc (.cells #[.pointer (some ⟨g, 0, none⟩)] 97)).alloc (.cells #[.pointer (some ⟨7, 97, none⟩), .pointer (some ⟨w.heap.size, 0, none⟩), .int .u64 150] 111)).cell? ⟨3, 0, none⟩ = some (.iface 125 (.agg #[.pointer (some ⟨7, 46, none⟩)])) := by
    rw [World.cell?_alloc_lt _ _ ⟨3, 0, none⟩ (by show 3 < _; simp only [World.size_alloc]; omega), World.cell?_alloc_lt _ _ ⟨3, 0, none⟩ (by show 3 < _; omega)]; exact hg
  have el := elemV ⟨w.heap.size, 0, none⟩ ⟨g, 0, none⟩ (((w.alloc (.cells #[.pointer (some ⟨g, 0, none⟩)] 97)).alloc (.cells #[.pointer (some ⟨7, 97, none⟩), .pointer (some ⟨w.heap.size, 0, none⟩), .int .u64 150] 111)).alloc (.cells #[.pointer (some ⟨7, 97, none⟩), .pointer (some ⟨w.heap.size, 0, none⟩), .int .u64 150] 111)) (by rw [World.cell?_alloc_lt _ _ ⟨w.heap.size, 0, none⟩ (by show w.heap.size < _; simp only [World.size_alloc]; omega)]; simp)
  have ht4 : ((((w.alloc (.cells #[.pointer (some ⟨g, 0, none⟩)] 97)).alloc (.cells #[.pointer (some ⟨7, 97, none⟩), .pointer (some ⟨w.heap.size, 0, none⟩), .int .u64 150] 111)).alloc (.cells #[.pointer (some ⟨7, 97, none⟩), .pointer (some ⟨w.heap.size, 0, none⟩), .int .u64 150] 111)).alloc (.cells #[.int .i64 k, .int .i64 l, .int .i64 a] 87)).heap[g]? = some (.cells old 87 (0, 0)) := by rw [Lib.alloc_old _ _ g (by simp only [World.size_alloc]; omega), Lib.alloc_old _ _ g (by simp only [World.size_alloc]; omega), Lib.alloc_old _ _ g (by simp only [World.size_alloc]; omega), Lib.alloc_old _ _ g hlt]; exact ht0
  have st := setF g (w.heap.size + 1 + 1 + 1) (.int .i64 k) (.int .i64 l) (.int .i64 a) old ((((w.alloc (.cells #[.pointer (some ⟨g, 0, none⟩)] 97)).alloc (.cells #[.pointer (some ⟨7, 97, none⟩), .pointer (some ⟨w.heap.size, 0, none⟩), .int .u64 150] 111)).alloc (.cells #[.pointer (some ⟨7, 97, none⟩), .pointer (some ⟨w.heap.size, 0, none⟩), .int .u64 150] 111)).alloc (.cells #[.int .i64 k, .int .i64 l, .int .i64 a] 87))
    (alloc_at _ _ _ (by simp only [World.size_alloc]))
    ht4 ho (by simp [Value.oneCell'])
  have HT := Lib.hid ht4
  clear ht0 ht4
  go_enter Tryz.func56, Tryz.ntmps56
  go_wp2
  refine wp_loop_rounds 1 ?_
  rw [rounds_succ]
  go_wp2
  go_ret
  refine ⟨rfl, setRow_below ((((Below.refl g w).alloc (by omega) _).alloc (by simp only [World.size_alloc]; omega) _).alloc (by simp only [World.size_alloc]; omega) _ |>.alloc (by simp only [World.size_alloc]; omega) _) (Nat.le_refl _) _, by simp; omega, setRow_heap _ _ _ _ _ _ HT.out⟩

set_option maxHeartbeats 4000000 in
theorem as_errno (k g : Nat) (w : World) (hg : ErrTab w) :
    Calls Tryz.prog 56 #[.iface 85 (.int .i64 k), .iface 97 (.pointer (some ⟨g, 0, none⟩))] w
      fun ev w' => ev = .returned (.bool false) ∧ Below w.heap.size w w' := by
  have h6 := @run_callFunc_extern Tryz.prog 68 _ (fun args => ReflectliteValue.unpack (args.getD 0 (.tuple #[]))) Tryz.func68 (by kernel_rfl) (by kernel_rfl) (by kernel_rfl) (by kernel_rfl)
  have h7 := @run_callFunc_extern Tryz.prog 69 _ (ReflectliteValue.methodAny (ReflectliteValue.valueError "reflectlite.Value.Type" 0) (fun t _ _ _ => ReflectliteType.toType t)) Tryz.func69 (by kernel_rfl) (by kernel_rfl) (by kernel_rfl) (by kernel_rfl)
  have h8 := @run_callFunc_extern Tryz.prog 70 _ (ReflectliteValue.method (ReflectliteValue.valueError "reflectlite.Value.IsNil" 0) ReflectliteValue.isNil) Tryz.func70 (by kernel_rfl) (by kernel_rfl) (by kernel_rfl) (by kernel_rfl)
  have h27 := @run_callFunc_extern Tryz.prog 104 _ (ReflectliteType.abiMethod fun t => do pure (.int .u8 (← Rtype.kind t))) Tryz.func104 (by kernel_rfl) (by kernel_rfl) (by kernel_rfl) (by kernel_rfl)
  have h37 := @run_callFunc_extern Tryz.prog 117 _ (ReflectliteType.method ReflectliteType.elem) Tryz.func117 (by kernel_rfl) (by kernel_rfl) (by kernel_rfl) (by kernel_rfl)
  have h38 := @run_callFunc_extern Tryz.prog 118 _ (ReflectliteType.relation "Implements" ReflectliteType.implements_) Tryz.func118 (by kernel_rfl) (by kernel_rfl) (by kernel_rfl) (by kernel_rfl)
  have h10 := @run_callFunc_extern Tryz.prog 75 _ ReflectliteType.typeOf Tryz.func75 (by kernel_rfl) (by kernel_rfl) (by kernel_rfl) (by kernel_rfl)
  have h35 := @run_callFunc_extern Tryz.prog 115 _ (ReflectliteType.relation "AssignableTo" ReflectliteType.assignableTo) Tryz.func115 (by kernel_rfl) (by kernel_rfl) (by kernel_rfl) (by kernel_rfl)
  have tO := isTypeOf
  have mA := methodAssignableTo
  have aF := assignableEF
  have f6 := valueOfP
  have f7 := typeP
  have mK := methodKind
  have mE := methodElem
  have mI := methodImplements
  have kP := kindP
  have kF := kindF
  have eP := elemP
  have iF := implementsF
  have nA := noAsE
  have uE := noUnwrapE
  have vE := noUnwrapsE
  have hlt := errTab_lt hg
  have n8 := isNilP ⟨w.heap.size, 0, none⟩ ⟨g, 0, none⟩ ((w.alloc (.cells #[.pointer (some ⟨g, 0, none⟩)] 97)).alloc (.cells #[.pointer (some ⟨7, 97, none⟩), .pointer (some ⟨w.heap.size, 0, none⟩), .int .u64 150] 111)) (by simp)
  have hg2 : ((w.alloc (.cells #[.pointer (some ⟨g, 0, none⟩)] 97)).alloc (.cells #[.pointer (some ⟨7, 97, none⟩), .pointer (some ⟨w.heap.size, 0, none⟩), .int .u64 150] 111)).cell? ⟨3, 0, none⟩ = some (.iface 125 (.agg #[.pointer (some ⟨7, 46, none⟩)])) := by
    rw [World.cell?_alloc_lt _ _ ⟨3, 0, none⟩ (by show 3 < _; simp only [World.size_alloc]; omega), World.cell?_alloc_lt _ _ ⟨3, 0, none⟩ (by show 3 < _; omega)]; exact hg
  go_enter Tryz.func56, Tryz.ntmps56
  go_wp2
  refine wp_loop_rounds 1 ?_
  rw [rounds_succ]
  go_wp2
  go_ret
  exact ⟨rfl, by repeat (first | exact Below.refl _ _ | refine Below.alloc ?_ (by first | omega | (simp only [World.size_alloc]; omega)) _)⟩
end Err
end Go.Proofs.YtgjelinnpcekmaaGreatDoor
namespace Go.Proofs.YtgjelinnpcekmaaGreatDoor
open Go.RowKit
namespace Err

theorem num_nil (w : World) : Calls Tryz.prog 55 #[.nilIface] w fun e w' => e = .returned (.int .i64 0) ∧ w = w' := by
  go_enter Tryz.func55, Tryz.ntmps55
  go_wp2
  go_ret
  exact ⟨rfl, rfl⟩

/-- What was found ahead of n. -/
def found (k n : Nat) : Nat := if k < n then k else 0
theorem found_le {k n : Nat} (h : n ≤ k) : found k n = 0 := if_neg (by omega)
theorem found_lt {k n : Nat} (h : k < n) : found k n = k := if_pos h
theorem found_succ {k n : Nat} (h : ¬ k = n) : found k (n + 1) = found k n := by unfold found; split <;> split <;> omega
/-- What asks for an error's number finds the one that it is. -/
theorem num_of (v : Value) (T : TypeId) (k : Nat) (h1 : 1 ≤ k) (h2 : k ≤ 32) (w : World)
    (hne : ∀ wx : World, (binOp .eql 46 (.iface T v) .nilIface).run Tryz.prog wx = .ok (.bool false) wx)
    (his : ∀ (n : Nat) (wx : World), Calls Tryz.prog 67 #[.iface T v, .iface 85 (.int .i64 n)] wx fun e w' => e = .returned (.bool (decide (k = n))) ∧ Below wx.heap.size wx w') :
    Calls Tryz.prog 55 #[.iface T v] w fun e w' => e = .returned (.int .i64 k) ∧ Below w.heap.size w w' := by
  have HIS := Lib.hid his
  clear his
  go_enter Tryz.func55, Tryz.ntmps55
  go_wp2_with fail
  go_loopw [3, 4] (fun f i wr => ∃ n : Nat, 1 ≤ n ∧ n ≤ 33 ∧ i = .int .i64 n ∧ f = .int .i64 (found k n : Nat) ∧ Hid (Below w.heap.size w wr)) (fun _ i _ => 33 - (intOf i).toNat)
  case atStart => exact ⟨1, by omega, by omega, rfl, by rw [found_le (by omega)]; rfl, Lib.hid (Below.refl _ _)⟩
  case round =>
    obtain ⟨n, hn1, hn2, rfl, rfl, HW⟩ := hrel
    by_cases hlt : n ≤ 32
    · go_wp2_with fail
      refine (HIS.out n _).mono ?_
      rintro e w' ⟨rfl, hb⟩
      have HW' := Lib.hid (HW.out.trans (hb.mono HW.out.size))
      clear hb
      by_cases hk : k = n
      · subst hk
        rw [decide_eq_true rfl, found_le (Nat.le_refl _)]
        go_wp2
        go_roundw
        case rel => exact ⟨k + 1, by omega, by omega, by go_num, by rw [found_lt (by omega)], HW'⟩
        case measure => simp [intOf]; omega
      · rw [decide_eq_false hk]
        go_wp2
        go_roundw
        case rel => exact ⟨n + 1, by omega, by omega, by go_num, by rw [found_succ hk], HW'⟩
        case measure => simp [intOf]; omega
    · have e33 : n = 33 := by omega
      subst e33
      rw [found_lt (by omega)]
      go_wp2_with fail
      refine (HIS.out 0 _).mono ?_
      rintro e w' ⟨rfl, hb⟩
      have HW' := Lib.hid (HW.out.trans (hb.mono HW.out.size))
      clear hb
      rw [decide_eq_false (by omega : ¬ k = 0)]
      go_wp2
      go_ret
      exact ⟨rfl, HW'.out⟩

theorem eql_nil_iface (T : TypeId) (v : Value) (wx : World) : (binOp .eql 46 (.iface T v) .nilIface).run Tryz.prog wx = .ok (.bool false) wx := by
  go_simp
theorem num_errno (k : Nat) (h1 : 1 ≤ k) (h2 : k ≤ 32) (w : World) : Calls Tryz.prog 55 #[.iface 85 (.int .i64 k)] w fun e w' => e = .returned (.int .i64 k) ∧ Below w.heap.size w w' :=
  num_of _ _ k h1 h2 w (eql_nil_iface _ _) fun n wx => (is_errno k n wx).mono fun _ _ ⟨h, e⟩ => ⟨h, by subst e; exact Below.refl _ _⟩
theorem num_fault (k l a : Nat) (h1 : 1 ≤ k) (h2 : k ≤ 32) (w : World) : Calls Tryz.prog 55 #[.iface 87 (.agg #[.int .i64 k, .int .i64 l, .int .i64 a])] w fun e w' => e = .returned (.int .i64 k) ∧ Below w.heap.size w w' :=
  num_of _ _ k h1 h2 w (eql_nil_iface _ _) fun n wx => is_fault k l a n wx

theorem errTab_below {w w' : World} {B : Nat} (h : ErrTab w) (hb : Below B w w') (hB : 3 < B) : ErrTab w' := (hb.cell hB).trans h
theorem errTab_alloc {w : World} (h : ErrTab w) (o : Obj) : ErrTab (w.alloc o) := errTab_below h ((Below.refl _ _).alloc (Nat.le_refl _) o) (errTab_lt h)

set_option maxHeartbeats 1000000 in
/-- The place of an error that has one. -/
theorem place_fault (k l a : Nat) (h1 : 1 ≤ k) (h2 : k ≤ 32) (w : World) (hg : ErrTab w) :
    Calls Tryz.prog 41 #[.iface 87 (.agg #[.int .i64 k, .int .i64 l, .int .i64 a])] w fun e w' => e = .returned (.tuple #[.int .i64 l, .int .i64 a, .bool true]) ∧ Below w.heap.size w w' := by
  have HG := Lib.hid hg
  clear hg
  have hne := eql_nil_iface 87 (.agg #[.int .i64 k, .int .i64 l, .int .i64 a])
  go_enter Tryz.func41, Tryz.ntmps41
  go_wp2_with fail
  refine (as_fault k l a w.heap.size _ _ (errTab_alloc HG.out _) (heap_alloc_new w _) (by rfl) (errTab_lt HG.out)).mono ?_
  rintro e w1 ⟨rfl, hb1, hs1, hr1⟩
  have B1 := Lib.hid (((Below.refl w.heap.size w).alloc (Nat.le_refl _) _).trans hb1)
  have c0 : w1.cell? ⟨w.heap.size, 0, none⟩ = some (.int .i64 k) := Lib.cell_of_heap hr1 0
  have c1 : w1.cell? ⟨w.heap.size, 1, none⟩ = some (.int .i64 l) := Lib.cell_of_heap hr1 1
  have c2 : w1.cell? ⟨w.heap.size, 2, none⟩ = some (.int .i64 a) := Lib.cell_of_heap hr1 2
  have hlt : w.heap.size < w1.heap.size := by simp at hs1; omega
  clear hb1 hr1 hs1
  go_wp2_with fail
  go_region_held3 (fun wx => wx.cell? ⟨w.heap.size, 0, none⟩ = some (.int .i64 k) ∧ wx.cell? ⟨w.heap.size, 1, none⟩ = some (.int .i64 l) ∧ wx.cell? ⟨w.heap.size, 2, none⟩ = some (.int .i64 a)) (go_keep) ((go_at_call 55; refine (num_fault k l a h1 h2 _).mono ?_; rintro e w2 ⟨rfl, hb2⟩; have d0 := (hb2.cell (p := ⟨w.heap.size, 0, none⟩) hlt).trans c0; have d1 := (hb2.cell (p := ⟨w.heap.size, 1, none⟩) hlt).trans c1; have d2 := (hb2.cell (p := ⟨w.heap.size, 2, none⟩) hlt).trans c2; have B2 : Hid (Below w.heap.size w w2) := Lib.hid (B1.out.trans ((show Below w1.heap.size w1 w2 from ⟨hb2.os, hb2.tape, hb2.output, hb2.size, hb2.block⟩).mono B1.out.size)); clear hb2))
  go_wp2
  go_ret3
  exact ⟨rfl, B2.out⟩

/-- Is an error's number this one, and tells it this place? It is, and it does. -/
theorem at_fault (k l a : Nat) (h1 : 1 ≤ k) (h2 : k ≤ 32) (w : World) (hg : ErrTab w) :
    Calls Tryz.prog 38 #[.iface 87 (.agg #[.int .i64 k, .int .i64 l, .int .i64 a]), .int .i64 k, .int .i64 l, .int .i64 a] w fun e w' => e = .returned (.bool true) ∧ Below w.heap.size w w' := by
  have hk : ¬ k = 0 := by omega
  go_enter Tryz.func38, Tryz.ntmps38
  go_wp2_with fail
  refine (place_fault k l a h1 h2 _ hg).mono ?_
  rintro e w1 ⟨rfl, hb1⟩
  have B1 := Lib.hid hb1
  clear hb1
  go_wp2_with fail
  refine (num_fault k l a h1 h2 _).mono ?_
  rintro e w2 ⟨rfl, hb2⟩
  have B2 := Lib.hid (B1.out.trans (hb2.mono B1.out.size))
  clear hb2
  go_wp2
  go_ret
  exact ⟨rfl, B2.out⟩
theorem at_nil (l a : Nat) (w : World) : Calls Tryz.prog 38 #[.nilIface, .int .i64 0, .int .i64 l, .int .i64 a] w fun e w' => e = .returned (.bool true) ∧ w = w' := by
  go_enter Tryz.func38, Tryz.ntmps38
  go_wp2
  go_ret
  exact ⟨rfl, rfl⟩
end Err
end Go.Proofs.YtgjelinnpcekmaaGreatDoor
namespace Go.Proofs.YtgjelinnpcekmaaGreatDoor
open Go.RowKit
namespace Err
theorem plain_nil (n : Nat) (w : World) : Calls Tryz.prog 35 #[.nilIface, .int .i64 n] w fun e w' => e = .returned (.bool (decide (n = 0))) ∧ Below w.heap.size w w' := by
  by_cases hn : n = 0
  · subst hn
    go_enter Tryz.func35, Tryz.ntmps35
    go_wp2_with fail
    refine (num_nil _).mono ?_
    rintro e w' ⟨rfl, rfl⟩
    go_wp2
    go_ret
    exact ⟨rfl, (Below.refl _ _).alloc (Nat.le_refl _) _⟩
  · rw [decide_eq_false hn]
    go_enter Tryz.func35, Tryz.ntmps35
    go_wp2_with fail
    refine (num_nil _).mono ?_
    rintro e w' ⟨rfl, rfl⟩
    go_wp2
    go_ret
    exact ⟨rfl, (Below.refl _ _).alloc (Nat.le_refl _) _⟩
theorem plain_errno (k n : Nat) (h1 : 1 ≤ k) (h2 : k ≤ 32) (w : World) (hg : ErrTab w) : Calls Tryz.prog 35 #[.iface 85 (.int .i64 k), .int .i64 n] w fun e w' => e = .returned (.bool (decide (k = n))) ∧ Below w.heap.size w w' := by
  have HG := Lib.hid hg
  clear hg
  have hne := eql_nil_iface 85 (.int .i64 k)
  by_cases hn : k = n
  · subst hn
    rw [decide_eq_true rfl]
    go_enter Tryz.func35, Tryz.ntmps35
    go_wp2_with fail
    refine (num_errno k h1 h2 _).mono ?_
    rintro e w1 ⟨rfl, hb1⟩
    have B1 := Lib.hid (((Below.refl w.heap.size w).alloc (Nat.le_refl _) _).trans (hb1.mono (by simp)))
    clear hb1
    go_wp2_with fail
    refine (as_errno k _ _ (errTab_below HG.out B1.out (errTab_lt HG.out))).mono ?_
    rintro e w2 ⟨rfl, hb2⟩
    have B2 := Lib.hid (B1.out.trans (hb2.mono B1.out.size))
    clear hb2
    go_wp2
    go_ret
    exact ⟨rfl, B2.out⟩
  · rw [decide_eq_false hn]
    go_enter Tryz.func35, Tryz.ntmps35
    go_wp2_with fail
    refine (num_errno k h1 h2 _).mono ?_
    rintro e w1 ⟨rfl, hb1⟩
    have B1 := Lib.hid (((Below.refl w.heap.size w).alloc (Nat.le_refl _) _).trans (hb1.mono (by simp)))
    clear hb1
    go_wp2
    go_ret
    exact ⟨rfl, B1.out⟩

end Err
end Go.Proofs.YtgjelinnpcekmaaGreatDoor
