/-
  errors.Is by contract at this seat's translation, for an error that is an api.Errno. (After the worked examples Sentry and Toyas.)
-/
import Derived.Test.YtnmnhnhlggbijaaKit
import Derived.Test.YtnmnhnhlggbijaaProg
import Derived.WalkKit
import Derived.LaidEql
import Derived.Lib.IfaceEq
import Derived.Stop.Asserts
import Derived.RowKitTokens
import Derived.Laws.Tables
namespace Go.Proofs.Ytnmnhnhlggbijaa
open Go.RowKit Go.Extern.Stop Go.Stop Go.Extern
namespace Err

theorem comp75 : (Try.prog.info? 68).map (·.comparable) = some true := by kernel_rfl
theorem isTypeOf (v : Value) (w : World) : (Extern.ReflectliteType.typeOf #[.iface 68 v]).run Try.prog w = .ok (.iface 98 (.agg #[.pointer (some ⟨1, 68, none⟩)])) w := by kernel_rfl
/-- The model's entry for (rtype).Comparable, under one name. -/
def cmpEntry : Array Value → Sem Value := Extern.ReflectliteType.method fun t => do Extern.Rtype.noPackHeld "Comparable" t; pure (.bool (← typeInfo t).comparable)
theorem isComparable (w : World) : (cmpEntry #[.agg #[.pointer (some ⟨1, 68, none⟩)]]).run Try.prog w = .ok (.bool true) w := by kernel_rfl
theorem isMethodComparable (v : Value) (w : World) : (Go.method 244 98 v "Comparable").run Try.prog w = .ok (79, v) w := by kernel_rfl
theorem noIsE (v : Value) (xT : TypeId) (w : World) : (Instr.typeAssert (.iface 68 v) xT 100 true).run Try.prog w = .ok (.tuple #[.nilIface, .bool false]) w := run_typeAssert_lacksB Try.underlying100 (by kernel_rfl) (by kernel_rfl) v xT w
theorem noUnwrapE (v : Value) (xT : TypeId) (w : World) : (Instr.typeAssert (.iface 68 v) xT 103 true).run Try.prog w = .ok (.tuple #[.nilIface, .bool false]) w := run_typeAssert_lacksB Try.underlying103 (by kernel_rfl) (by kernel_rfl) v xT w
theorem noUnwrapsE (v : Value) (xT : TypeId) (w : World) : (Instr.typeAssert (.iface 68 v) xT 105 true).run Try.prog w = .ok (.tuple #[.nilIface, .bool false]) w := run_typeAssert_lacksB Try.underlying105 (by kernel_rfl) (by kernel_rfl) v xT w

/-- An error that is a number, or a number with its place. -/
def errno (k : Nat) : Value := .iface 68 (.int .i64 k)

set_option maxHeartbeats 1000000 in
theorem is_errno (k n : Nat) (w : World) : Calls Try.prog 27 #[.iface 68 (.int .i64 k), .iface 68 (.int .i64 n)] w fun e w' => e = .returned (.bool (decide (k = n))) ∧ w = w' := by
  have h8 := @run_callFunc_extern Try.prog 40 _ Extern.ReflectliteType.typeOf Try.func40 (by kernel_rfl) (by kernel_rfl) (by kernel_rfl) (by kernel_rfl)
  have h32 := @run_callFunc_extern Try.prog 79 _ cmpEntry Try.func79 (by kernel_rfl) (by kernel_rfl) (by kernel_rfl) (by kernel_rfl)
  have tT := isTypeOf
  have cT := isComparable
  have mR := isMethodComparable
  have nE := noIsE
  have uE := noUnwrapE
  have vE := noUnwrapsE
  have heq : ∀ wx : World, (binOp .eql 32 (.iface 68 (.int .i64 k)) (.iface 68 (.int .i64 n))).run Try.prog wx = .ok (.bool ((k : Int) == n)) wx := fun wx => Lib.run_eql_iface_int wx _ _ Try.underlying32 comp75 Try.underlying68
  by_cases hkn : k = n
  · subst hkn
    rw [decide_eq_true rfl]
    go_enter Try.func27, Try.ntmps27
    go_wp2
    refine wp_loop_rounds 1 ?_
    rw [rounds_succ]
    go_wp2
    go_ret
    exact ⟨rfl, rfl⟩
  · rw [decide_eq_false hkn]
    have hne : ((k : Int) == n) = false := by rw [beq_eq_false_iff_ne]; omega
    rw [hne] at heq
    go_enter Try.func27, Try.ntmps27
    go_wp2
    refine wp_loop_rounds 1 ?_
    rw [rounds_succ]
    go_wp2
    go_ret
    exact ⟨rfl, rfl⟩
end Err
end Go.Proofs.Ytnmnhnhlggbijaa
