/-
  errors.Is and errors.As by contracts at this seat's translation, for an error that is an api.Errno or an api.Fault; the target of As is a variable of type api.Fault. (After the worked examples Sentry and Toyas.)
-/
import Derived.Test.YtlfeddgpfaigkaaGreatDoorKit
import Derived.Test.YtlfeddgpfaigkaaGreatDoorProg
import Derived.WalkKit
import Derived.LaidEql
import Derived.Lib.IfaceEq
import Derived.Stop.Asserts
import Derived.RowKitTokens
import Derived.Laws.Tables
namespace Go.Proofs.YtlfeddgpfaigkaaGreatDoor
open Go.RowKit Go.Extern.Stop Go.Stop Go.Extern
namespace Err

theorem comp75 : (Tryz.prog.info? 95).map (·.comparable) = some true := by kernel_rfl
theorem isTypeOf (v : Value) (w : World) : (Extern.ReflectliteType.typeOf #[.iface 95 v]).run Tryz.prog w = .ok (.iface 287 (.agg #[.pointer (some ⟨9, 95, none⟩)])) w := by kernel_rfl
/-- The model's entry for (rtype).Comparable, under one name. -/
def cmpEntry : Array Value → Sem Value := Extern.ReflectliteType.method fun t => do Extern.Rtype.noPackHeld "Comparable" t; pure (.bool (← typeInfo t).comparable)
theorem isComparable (w : World) : (cmpEntry #[.agg #[.pointer (some ⟨9, 95, none⟩)]]).run Tryz.prog w = .ok (.bool true) w := by kernel_rfl
theorem isMethodComparable (v : Value) (w : World) : (Go.method 490 287 v "Comparable").run Tryz.prog w = .ok (237, v) w := by kernel_rfl
theorem noIsE (v : Value) (xT : TypeId) (w : World) : (Instr.typeAssert (.iface 95 v) xT 319 true).run Tryz.prog w = .ok (.tuple #[.nilIface, .bool false]) w := run_typeAssert_lacksB Tryz.underlying319 (by kernel_rfl) (by kernel_rfl) v xT w
theorem noIsF (v : Value) (xT : TypeId) (w : World) : (Instr.typeAssert (.iface 98 v) xT 319 true).run Tryz.prog w = .ok (.tuple #[.nilIface, .bool false]) w := run_typeAssert_lacksB Tryz.underlying319 (by kernel_rfl) (by kernel_rfl) v xT w
theorem noAsE (v : Value) (xT : TypeId) (w : World) : (Instr.typeAssert (.iface 95 v) xT 291 true).run Tryz.prog w = .ok (.tuple #[.nilIface, .bool false]) w := run_typeAssert_lacksB Tryz.underlying291 (by kernel_rfl) (by kernel_rfl) v xT w
theorem noUnwrapE (v : Value) (xT : TypeId) (w : World) : (Instr.typeAssert (.iface 95 v) xT 294 true).run Tryz.prog w = .ok (.tuple #[.nilIface, .bool false]) w := run_typeAssert_lacksB Tryz.underlying294 (by kernel_rfl) (by kernel_rfl) v xT w
theorem noUnwrapsE (v : Value) (xT : TypeId) (w : World) : (Instr.typeAssert (.iface 95 v) xT 296 true).run Tryz.prog w = .ok (.tuple #[.nilIface, .bool false]) w := run_typeAssert_lacksB Tryz.underlying296 (by kernel_rfl) (by kernel_rfl) v xT w
theorem hasUnwrapF (v : Value) (xT : TypeId) (w : World) : (Instr.typeAssert (.iface 98 v) xT 294 true).run Tryz.prog w = .ok (.tuple #[.iface 98 v, .bool true]) w := run_typeAssert_hasB Tryz.underlying294 (by kernel_rfl) v xT w
theorem methodUnwrap (v : Value) (w : World) : (Go.method 490 98 v "Unwrap").run Tryz.prog w = .ok (224, v) w := by kernel_rfl

/-- An error that is a number, or a number with its place. -/
def errno (k : Nat) : Value := .iface 95 (.int .i64 k)
def fault (k l a : Nat) : Value := .iface 98 (.agg #[.int .i64 k, .int .i64 l, .int .i64 a])

set_option maxHeartbeats 1000000 in
theorem is_errno (k n : Nat) (w : World) : Calls Tryz.prog 97 #[.iface 95 (.int .i64 k), .iface 95 (.int .i64 n)] w fun e w' => e = .returned (.bool (decide (k = n))) ∧ w = w' := by
  have h8 := @run_callFunc_extern Tryz.prog 141 _ Extern.ReflectliteType.typeOf Tryz.func141 (by kernel_rfl) (by kernel_rfl) (by kernel_rfl) (by kernel_rfl)
  have h32 := @run_callFunc_extern Tryz.prog 237 _ cmpEntry Tryz.func237 (by kernel_rfl) (by kernel_rfl) (by kernel_rfl) (by kernel_rfl)
  have tT := isTypeOf
  have cT := isComparable
  have mR := isMethodComparable
  have nE := noIsE
  have uE := noUnwrapE
  have vE := noUnwrapsE
  have heq : ∀ wx : World, (binOp .eql 31 (.iface 95 (.int .i64 k)) (.iface 95 (.int .i64 n))).run Tryz.prog wx = .ok (.bool ((k : Int) == n)) wx := fun wx => Lib.run_eql_iface_int wx _ _ Tryz.underlying31 comp75 Tryz.underlying95
  by_cases hkn : k = n
  · subst hkn
    rw [decide_eq_true rfl]
    go_enter Tryz.func97, Tryz.ntmps97
    go_wp2
    refine wp_loop_rounds 1 ?_
    rw [rounds_succ]
    go_wp2
    go_ret
    exact ⟨rfl, rfl⟩
  · rw [decide_eq_false hkn]
    have hne : ((k : Int) == n) = false := by rw [beq_eq_false_iff_ne]; omega
    rw [hne] at heq
    go_enter Tryz.func97, Tryz.ntmps97
    go_wp2
    refine wp_loop_rounds 1 ?_
    rw [rounds_succ]
    go_wp2
    go_ret
    exact ⟨rfl, rfl⟩

set_option maxHeartbeats 1000000 in
theorem is_fault (k l a n : Nat) (w : World) : Calls Tryz.prog 97 #[.iface 98 (.agg #[.int .i64 k, .int .i64 l, .int .i64 a]), .iface 95 (.int .i64 n)] w fun e w' => e = .returned (.bool (decide (k = n))) ∧ Below w.heap.size w w' := by
  have h8 := @run_callFunc_extern Tryz.prog 141 _ Extern.ReflectliteType.typeOf Tryz.func141 (by kernel_rfl) (by kernel_rfl) (by kernel_rfl) (by kernel_rfl)
  have h32 := @run_callFunc_extern Tryz.prog 237 _ cmpEntry Tryz.func237 (by kernel_rfl) (by kernel_rfl) (by kernel_rfl) (by kernel_rfl)
  have tT := isTypeOf
  have cT := isComparable
  have mR := isMethodComparable
  have nE := noIsE
  have nF := noIsF
  have uE := noUnwrapE
  have vE := noUnwrapsE
  have uF := hasUnwrapF
  have mU := methodUnwrap
  have hty : ∀ wx : World, (binOp .eql 31 (.iface 98 (.agg #[.int .i64 k, .int .i64 l, .int .i64 a])) (.iface 95 (.int .i64 n))).run Tryz.prog wx = .ok (.bool false) wx := fun wx => run_eql_iface_types (P := Tryz.prog) _ _ _ _ Tryz.underlying31 (by decide) wx
  have heq : ∀ wx : World, (binOp .eql 31 (.iface 95 (.int .i64 k)) (.iface 95 (.int .i64 n))).run Tryz.prog wx = .ok (.bool ((k : Int) == n)) wx := fun wx => Lib.run_eql_iface_int wx _ _ Tryz.underlying31 comp75 Tryz.underlying95
  by_cases hkn : k = n
  · subst hkn
    rw [decide_eq_true rfl]
    go_enter Tryz.func97, Tryz.ntmps97
    go_wp2
    refine wp_loop_rounds 2 ?_
    rw [rounds_succ]
    go_wp2
    rw [rounds_succ]
    go_wp2
    go_ret
    exact ⟨rfl, by repeat (first | exact Below.refl _ _ | refine Below.alloc ?_ (by simp) _)⟩
  · rw [decide_eq_false hkn]
    have hne : ((k : Int) == n) = false := by rw [beq_eq_false_iff_ne]; omega
    rw [hne] at heq
    go_enter Tryz.func97, Tryz.ntmps97
    go_wp2
    refine wp_loop_rounds 2 ?_
    rw [rounds_succ]
    go_wp2
    rw [rounds_succ]
    go_wp2
    go_ret
    exact ⟨rfl, by repeat (first | exact Below.refl _ _ | refine Below.alloc ?_ (by simp) _)⟩
end Err
end Go.Proofs.YtlfeddgpfaigkaaGreatDoor
