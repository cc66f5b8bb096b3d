/-
  The walk of stratakit's Plain at this seat's translation, for nil and a number.
-/
import Derived.Test.YtlfeddgpfaigkaaGreatDoorErrN
import Derived.OwnWalk
namespace Go.Proofs.YtlfeddgpfaigkaaGreatDoor
open Go.RowKit
namespace Err
theorem plain_nil (n : Nat) (w : World) : Calls Tryz.prog 13 #[.nilIface, .int .i64 n] w fun e w' => e = .returned (.bool (decide (n = 0))) ∧ Below w.heap.size w w' := by
  by_cases hn : n = 0
  · subst hn
    go_enter Tryz.func13, Tryz.ntmps13
    go_wp2_with fail
    refine (num_nil _).mono ?_
    rintro e w' ⟨rfl, rfl⟩
    go_wp2
    go_ret
    exact ⟨rfl, (Below.refl _ _).alloc (Nat.le_refl _) _⟩
  · rw [decide_eq_false hn]
    go_enter Tryz.func13, Tryz.ntmps13
    go_wp2_with fail
    refine (num_nil _).mono ?_
    rintro e w' ⟨rfl, rfl⟩
    go_wp2
    go_ret
    exact ⟨rfl, (Below.refl _ _).alloc (Nat.le_refl _) _⟩
theorem plain_errno (k n : Nat) (h1 : 1 ≤ k) (h2 : k ≤ 32) (w : World) (hg : ErrTab w) : Calls Tryz.prog 13 #[.iface 95 (.int .i64 k), .int .i64 n] w fun e w' => e = .returned (.bool (decide (k = n))) ∧ Below w.heap.size w w' := by
  have HG := Lib.hid hg
  clear hg
  have hne := eql_nil_iface 95 (.int .i64 k)
  by_cases hn : k = n
  · subst hn
    rw [decide_eq_true rfl]
    go_enter Tryz.func13, Tryz.ntmps13
    go_wp2_with fail
    refine (num_errno k h1 h2 _).mono ?_
    rintro e w1 ⟨rfl, hb1⟩
    have B1 := Lib.hid (((Below.refl w.heap.size w).alloc (Nat.le_refl _) _).trans (hb1.mono (by simp)))
    clear hb1
    go_wp2_with fail
    refine (as_errno k _ _ (errTab_below HG.out B1.out (errTab_lt HG.out))).mono ?_
    rintro e w2 ⟨rfl, hb2⟩
    have B2 := Lib.hid (B1.out.trans (hb2.mono B1.out.size))
    clear hb2
    go_wp2
    go_ret
    exact ⟨rfl, B2.out⟩
  · rw [decide_eq_false hn]
    go_enter Tryz.func13, Tryz.ntmps13
    go_wp2_with fail
    refine (num_errno k h1 h2 _).mono ?_
    rintro e w1 ⟨rfl, hb1⟩
    have B1 := Lib.hid (((Below.refl w.heap.size w).alloc (Nat.le_refl _) _).trans (hb1.mono (by simp)))
    clear hb1
    go_wp2
    go_ret
    exact ⟨rfl, B1.out⟩

end Err
end Go.Proofs.YtlfeddgpfaigkaaGreatDoor
