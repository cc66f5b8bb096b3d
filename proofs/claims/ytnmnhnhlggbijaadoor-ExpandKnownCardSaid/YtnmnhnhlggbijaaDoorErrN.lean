/-
  The walks of stratakit's Num at this seat's translation, for nil and a number.
-/
import Derived.Test.YtnmnhnhlggbijaaDoorErrB
import Derived.Deep.RegionHeld3
import Derived.OwnWalk
namespace Go.Proofs.YtnmnhnhlggbijaaDoor
open Go.RowKit
namespace Err

theorem num_nil (w : World) : Calls Tryd.prog 27 #[.nilIface] w fun e w' => e = .returned (.int .i64 0) ∧ w = w' := by
  go_enter Tryd.func27, Tryd.ntmps27
  go_wp2
  go_ret
  exact ⟨rfl, rfl⟩

/-- What was found ahead of n. -/
def found (k n : Nat) : Nat := if k < n then k else 0
theorem found_le {k n : Nat} (h : n ≤ k) : found k n = 0 := if_neg (by omega)
theorem found_lt {k n : Nat} (h : k < n) : found k n = k := if_pos h
theorem found_succ {k n : Nat} (h : ¬ k = n) : found k (n + 1) = found k n := by unfold found; split <;> split <;> omega
/-- What asks for an error's number finds the one that it is. -/
theorem num_of (v : Value) (T : TypeId) (k : Nat) (h1 : 1 ≤ k) (h2 : k ≤ 32) (w : World)
    (hne : ∀ wx : World, (binOp .eql 28 (.iface T v) .nilIface).run Tryd.prog wx = .ok (.bool false) wx)
    (his : ∀ (n : Nat) (wx : World), Calls Tryd.prog 43 #[.iface T v, .iface 45 (.int .i64 n)] wx fun e w' => e = .returned (.bool (decide (k = n))) ∧ Below wx.heap.size wx w') :
    Calls Tryd.prog 27 #[.iface T v] w fun e w' => e = .returned (.int .i64 k) ∧ Below w.heap.size w w' := by
  have HIS := Lib.hid his
  clear his
  go_enter Tryd.func27, Tryd.ntmps27
  go_wp2_with fail
  go_loopw [3, 4] (fun f i wr => ∃ n : Nat, 1 ≤ n ∧ n ≤ 33 ∧ i = .int .i64 n ∧ f = .int .i64 (found k n : Nat) ∧ Hid (Below w.heap.size w wr)) (fun _ i _ => 33 - (intOf i).toNat)
  case atStart => exact ⟨1, by omega, by omega, rfl, by rw [found_le (by omega)]; rfl, Lib.hid (Below.refl _ _)⟩
  case round =>
    obtain ⟨n, hn1, hn2, rfl, rfl, HW⟩ := hrel
    by_cases hlt : n ≤ 32
    · go_wp2_with fail
      refine (HIS.out n _).mono ?_
      rintro e w' ⟨rfl, hb⟩
      have HW' := Lib.hid (HW.out.trans (hb.mono HW.out.size))
      clear hb
      by_cases hk : k = n
      · subst hk
        rw [decide_eq_true rfl, found_le (Nat.le_refl _)]
        go_wp2
        go_roundw
        case rel => exact ⟨k + 1, by omega, by omega, by go_num, by rw [found_lt (by omega)], HW'⟩
        case measure => simp [intOf]; omega
      · rw [decide_eq_false hk]
        go_wp2
        go_roundw
        case rel => exact ⟨n + 1, by omega, by omega, by go_num, by rw [found_succ hk], HW'⟩
        case measure => simp [intOf]; omega
    · have e33 : n = 33 := by omega
      subst e33
      rw [found_lt (by omega)]
      go_wp2_with fail
      refine (HIS.out 0 _).mono ?_
      rintro e w' ⟨rfl, hb⟩
      have HW' := Lib.hid (HW.out.trans (hb.mono HW.out.size))
      clear hb
      rw [decide_eq_false (by omega : ¬ k = 0)]
      go_wp2
      go_ret
      exact ⟨rfl, HW'.out⟩

theorem eql_nil_iface (T : TypeId) (v : Value) (wx : World) : (binOp .eql 28 (.iface T v) .nilIface).run Tryd.prog wx = .ok (.bool false) wx := by
  go_simp
theorem num_errno (k : Nat) (h1 : 1 ≤ k) (h2 : k ≤ 32) (w : World) : Calls Tryd.prog 27 #[.iface 45 (.int .i64 k)] w fun e w' => e = .returned (.int .i64 k) ∧ Below w.heap.size w w' :=
  num_of _ _ k h1 h2 w (eql_nil_iface _ _) fun n wx => (is_errno k n wx).mono fun _ _ ⟨h, e⟩ => ⟨h, by subst e; exact Below.refl _ _⟩
theorem num_fault (k l a : Nat) (h1 : 1 ≤ k) (h2 : k ≤ 32) (w : World) : Calls Tryd.prog 27 #[.iface 47 (.agg #[.int .i64 k, .int .i64 l, .int .i64 a])] w fun e w' => e = .returned (.int .i64 k) ∧ Below w.heap.size w w' :=
  num_of _ _ k h1 h2 w (eql_nil_iface _ _) fun n wx => is_fault k l a n wx

theorem errTab_below {w w' : World} {B : Nat} (h : ErrTab w) (hb : Below B w w') (hB : 0 < B) : ErrTab w' := (hb.cell hB).trans h
theorem errTab_alloc {w : World} (h : ErrTab w) (o : Obj) : ErrTab (w.alloc o) := errTab_below h ((Below.refl _ _).alloc (Nat.le_refl _) o) (errTab_lt h)
end Err
end Go.Proofs.YtnmnhnhlggbijaaDoor
