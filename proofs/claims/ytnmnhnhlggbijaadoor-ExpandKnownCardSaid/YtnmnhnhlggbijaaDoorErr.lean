/-
  errors.Is and errors.As by contracts at this seat's translation, for an error that is an api.Errno or an api.Fault; the target of As is a variable of type api.Fault. (After the worked examples Sentry and Toyas.)
-/
import Derived.Test.YtnmnhnhlggbijaaDoorKit
import Derived.Test.YtnmnhnhlggbijaaDoorProg
import Derived.WalkKit
import Derived.LaidEql
import Derived.Lib.IfaceEq
import Derived.Stop.Asserts
import Derived.RowKitTokens
import Derived.Laws.Tables
namespace Go.Proofs.YtnmnhnhlggbijaaDoor
open Go.RowKit Go.Extern.Stop Go.Stop Go.Extern
namespace Err

theorem comp75 : (Tryd.prog.info? 45).map (·.comparable) = some true := by kernel_rfl
theorem isTypeOf (v : Value) (w : World) : (Extern.ReflectliteType.typeOf #[.iface 45 v]).run Tryd.prog w = .ok (.iface 117 (.agg #[.pointer (some ⟨2, 45, none⟩)])) w := by kernel_rfl
/-- The model's entry for (rtype).Comparable, under one name. -/
def cmpEntry : Array Value → Sem Value := Extern.ReflectliteType.method fun t => do Extern.Rtype.noPackHeld "Comparable" t; pure (.bool (← typeInfo t).comparable)
theorem isComparable (w : World) : (cmpEntry #[.agg #[.pointer (some ⟨2, 45, none⟩)]]).run Tryd.prog w = .ok (.bool true) w := by kernel_rfl
theorem isMethodComparable (v : Value) (w : World) : (Go.method 270 117 v "Comparable").run Tryd.prog w = .ok (103, v) w := by kernel_rfl
theorem noIsE (v : Value) (xT : TypeId) (w : World) : (Instr.typeAssert (.iface 45 v) xT 134 true).run Tryd.prog w = .ok (.tuple #[.nilIface, .bool false]) w := run_typeAssert_lacksB Tryd.underlying134 (by kernel_rfl) (by kernel_rfl) v xT w
theorem noIsF (v : Value) (xT : TypeId) (w : World) : (Instr.typeAssert (.iface 47 v) xT 134 true).run Tryd.prog w = .ok (.tuple #[.nilIface, .bool false]) w := run_typeAssert_lacksB Tryd.underlying134 (by kernel_rfl) (by kernel_rfl) v xT w
theorem noAsE (v : Value) (xT : TypeId) (w : World) : (Instr.typeAssert (.iface 45 v) xT 121 true).run Tryd.prog w = .ok (.tuple #[.nilIface, .bool false]) w := run_typeAssert_lacksB Tryd.underlying121 (by kernel_rfl) (by kernel_rfl) v xT w
theorem noUnwrapE (v : Value) (xT : TypeId) (w : World) : (Instr.typeAssert (.iface 45 v) xT 124 true).run Tryd.prog w = .ok (.tuple #[.nilIface, .bool false]) w := run_typeAssert_lacksB Tryd.underlying124 (by kernel_rfl) (by kernel_rfl) v xT w
theorem noUnwrapsE (v : Value) (xT : TypeId) (w : World) : (Instr.typeAssert (.iface 45 v) xT 126 true).run Tryd.prog w = .ok (.tuple #[.nilIface, .bool false]) w := run_typeAssert_lacksB Tryd.underlying126 (by kernel_rfl) (by kernel_rfl) v xT w
theorem hasUnwrapF (v : Value) (xT : TypeId) (w : World) : (Instr.typeAssert (.iface 47 v) xT 124 true).run Tryd.prog w = .ok (.tuple #[.iface 47 v, .bool true]) w := run_typeAssert_hasB Tryd.underlying124 (by kernel_rfl) v xT w
theorem methodUnwrap (v : Value) (w : World) : (Go.method 270 47 v "Unwrap").run Tryd.prog w = .ok (90, v) w := by kernel_rfl

/-- An error that is a number, or a number with its place. -/
def errno (k : Nat) : Value := .iface 45 (.int .i64 k)
def fault (k l a : Nat) : Value := .iface 47 (.agg #[.int .i64 k, .int .i64 l, .int .i64 a])

set_option maxHeartbeats 1000000 in
theorem is_errno (k n : Nat) (w : World) : Calls Tryd.prog 43 #[.iface 45 (.int .i64 k), .iface 45 (.int .i64 n)] w fun e w' => e = .returned (.bool (decide (k = n))) ∧ w = w' := by
  have h8 := @run_callFunc_extern Tryd.prog 59 _ Extern.ReflectliteType.typeOf Tryd.func59 (by kernel_rfl) (by kernel_rfl) (by kernel_rfl) (by kernel_rfl)
  have h32 := @run_callFunc_extern Tryd.prog 103 _ cmpEntry Tryd.func103 (by kernel_rfl) (by kernel_rfl) (by kernel_rfl) (by kernel_rfl)
  have tT := isTypeOf
  have cT := isComparable
  have mR := isMethodComparable
  have nE := noIsE
  have uE := noUnwrapE
  have vE := noUnwrapsE
  have heq : ∀ wx : World, (binOp .eql 28 (.iface 45 (.int .i64 k)) (.iface 45 (.int .i64 n))).run Tryd.prog wx = .ok (.bool ((k : Int) == n)) wx := fun wx => Lib.run_eql_iface_int wx _ _ Tryd.underlying28 comp75 Tryd.underlying45
  by_cases hkn : k = n
  · subst hkn
    rw [decide_eq_true rfl]
    go_enter Tryd.func43, Tryd.ntmps43
    go_wp2
    refine wp_loop_rounds 1 ?_
    rw [rounds_succ]
    go_wp2
    go_ret
    exact ⟨rfl, rfl⟩
  · rw [decide_eq_false hkn]
    have hne : ((k : Int) == n) = false := by rw [beq_eq_false_iff_ne]; omega
    rw [hne] at heq
    go_enter Tryd.func43, Tryd.ntmps43
    go_wp2
    refine wp_loop_rounds 1 ?_
    rw [rounds_succ]
    go_wp2
    go_ret
    exact ⟨rfl, rfl⟩

set_option maxHeartbeats 1000000 in
theorem is_fault (k l a n : Nat) (w : World) : Calls Tryd.prog 43 #[.iface 47 (.agg #[.int .i64 k, .int .i64 l, .int .i64 a]), .iface 45 (.int .i64 n)] w fun e w' => e = .returned (.bool (decide (k = n))) ∧ Below w.heap.size w w' := by
  have h8 := @run_callFunc_extern Tryd.prog 59 _ Extern.ReflectliteType.typeOf Tryd.func59 (by kernel_rfl) (by kernel_rfl) (by kernel_rfl) (by kernel_rfl)
  have h32 := @run_callFunc_extern Tryd.prog 103 _ cmpEntry Tryd.func103 (by kernel_rfl) (by kernel_rfl) (by kernel_rfl) (by kernel_rfl)
  have tT := isTypeOf
  have cT := isComparable
  have mR := isMethodComparable
  have nE := noIsE
  have nF := noIsF
  have uE := noUnwrapE
  have vE := noUnwrapsE
  have uF := hasUnwrapF
  have mU := methodUnwrap
  have hty : ∀ wx : World, (binOp .eql 28 (.iface 47 (.agg #[.int .i64 k, .int .i64 l, .int .i64 a])) (.iface 45 (.int .i64 n))).run Tryd.prog wx = .ok (.bool false) wx := fun wx => run_eql_iface_types (P := Tryd.prog) _ _ _ _ Tryd.underlying28 (by decide) wx
  have heq : ∀ wx : World, (binOp .eql 28 (.iface 45 (.int .i64 k)) (.iface 45 (.int .i64 n))).run Tryd.prog wx = .ok (.bool ((k : Int) == n)) wx := fun wx => Lib.run_eql_iface_int wx _ _ Tryd.underlying28 comp75 Tryd.underlying45
  by_cases hkn : k = n
  · subst hkn
    rw [decide_eq_true rfl]
    go_enter Tryd.func43, Tryd.ntmps43
    go_wp2
    refine wp_loop_rounds 2 ?_
    rw [rounds_succ]
    go_wp2
    rw [rounds_succ]
    go_wp2
    go_ret
    exact ⟨rfl, by repeat (first | exact Below.refl _ _ | refine Below.alloc ?_ (by simp) _)⟩
  · rw [decide_eq_false hkn]
    have hne : ((k : Int) == n) = false := by rw [beq_eq_false_iff_ne]; omega
    rw [hne] at heq
    go_enter Tryd.func43, Tryd.ntmps43
    go_wp2
    refine wp_loop_rounds 2 ?_
    rw [rounds_succ]
    go_wp2
    rw [rounds_succ]
    go_wp2
    go_ret
    exact ⟨rfl, by repeat (first | exact Below.refl _ _ | refine Below.alloc ?_ (by simp) _)⟩
end Err
end Go.Proofs.YtnmnhnhlggbijaaDoor
