/-
  The walks of stratakit's Num, Place and At at this seat's translation, for nil, a number, a number with its place.
-/
import Derived.Test.YtlfeddgpfaigkaaGreatDoorErrB
import Derived.Deep.RegionHeld3
import Derived.OwnWalk
namespace Go.Proofs.YtlfeddgpfaigkaaGreatDoor
open Go.RowKit
namespace Err

theorem num_nil (w : World) : Calls Tryz.prog 40 #[.nilIface] w fun e w' => e = .returned (.int .i64 0) ∧ w = w' := by
  go_enter Tryz.func40, Tryz.ntmps40
  go_wp2
  go_ret
  exact ⟨rfl, rfl⟩

/-- What was found ahead of n. -/
def found (k n : Nat) : Nat := if k < n then k else 0
theorem found_le {k n : Nat} (h : n ≤ k) : found k n = 0 := if_neg (by omega)
theorem found_lt {k n : Nat} (h : k < n) : found k n = k := if_pos h
theorem found_succ {k n : Nat} (h : ¬ k = n) : found k (n + 1) = found k n := by unfold found; split <;> split <;> omega
/-- What asks for an error's number finds the one that it is. -/
theorem num_of (v : Value) (T : TypeId) (k : Nat) (h1 : 1 ≤ k) (h2 : k ≤ 32) (w : World)
    (hne : ∀ wx : World, (binOp .eql 31 (.iface T v) .nilIface).run Tryz.prog wx = .ok (.bool false) wx)
    (his : ∀ (n : Nat) (wx : World), Calls Tryz.prog 97 #[.iface T v, .iface 95 (.int .i64 n)] wx fun e w' => e = .returned (.bool (decide (k = n))) ∧ Below wx.heap.size wx w') :
    Calls Tryz.prog 40 #[.iface T v] w fun e w' => e = .returned (.int .i64 k) ∧ Below w.heap.size w w' := by
  have HIS := Lib.hid his
  clear his
  go_enter Tryz.func40, Tryz.ntmps40
  go_wp2_with fail
  go_loopw [3, 4] (fun f i wr => ∃ n : Nat, 1 ≤ n ∧ n ≤ 33 ∧ i = .int .i64 n ∧ f = .int .i64 (found k n : Nat) ∧ Hid (Below w.heap.size w wr)) (fun _ i _ => 33 - (intOf i).toNat)
  case atStart => exact ⟨1, by omega, by omega, rfl, by rw [found_le (by omega)]; rfl, Lib.hid (Below.refl _ _)⟩
  case round =>
    obtain ⟨n, hn1, hn2, rfl, rfl, HW⟩ := hrel
    by_cases hlt : n ≤ 32
    · go_wp2_with fail
      refine (HIS.out n _).mono ?_
      rintro e w' ⟨rfl, hb⟩
      have HW' := Lib.hid (HW.out.trans (hb.mono HW.out.size))
      clear hb
      by_cases hk : k = n
      · subst hk
        rw [decide_eq_true rfl, found_le (Nat.le_refl _)]
        go_wp2
        go_roundw
        case rel => exact ⟨k + 1, by omega, by omega, by go_num, by rw [found_lt (by omega)], HW'⟩
        case measure => simp [intOf]; omega
      · rw [decide_eq_false hk]
        go_wp2
        go_roundw
        case rel => exact ⟨n + 1, by omega, by omega, by go_num, by rw [found_succ hk], HW'⟩
        case measure => simp [intOf]; omega
    · have e33 : n = 33 := by omega
      subst e33
      rw [found_lt (by omega)]
      go_wp2_with fail
      refine (HIS.out 0 _).mono ?_
      rintro e w' ⟨rfl, hb⟩
      have HW' := Lib.hid (HW.out.trans (hb.mono HW.out.size))
      clear hb
      rw [decide_eq_false (by omega : ¬ k = 0)]
      go_wp2
      go_ret
      exact ⟨rfl, HW'.out⟩

theorem eql_nil_iface (T : TypeId) (v : Value) (wx : World) : (binOp .eql 31 (.iface T v) .nilIface).run Tryz.prog wx = .ok (.bool false) wx := by
  go_simp
theorem num_errno (k : Nat) (h1 : 1 ≤ k) (h2 : k ≤ 32) (w : World) : Calls Tryz.prog 40 #[.iface 95 (.int .i64 k)] w fun e w' => e = .returned (.int .i64 k) ∧ Below w.heap.size w w' :=
  num_of _ _ k h1 h2 w (eql_nil_iface _ _) fun n wx => (is_errno k n wx).mono fun _ _ ⟨h, e⟩ => ⟨h, by subst e; exact Below.refl _ _⟩
theorem num_fault (k l a : Nat) (h1 : 1 ≤ k) (h2 : k ≤ 32) (w : World) : Calls Tryz.prog 40 #[.iface 98 (.agg #[.int .i64 k, .int .i64 l, .int .i64 a])] w fun e w' => e = .returned (.int .i64 k) ∧ Below w.heap.size w w' :=
  num_of _ _ k h1 h2 w (eql_nil_iface _ _) fun n wx => is_fault k l a n wx

theorem errTab_below {w w' : World} {B : Nat} (h : ErrTab w) (hb : Below B w w') (hB : 0 < B) : ErrTab w' := (hb.cell hB).trans h
theorem errTab_alloc {w : World} (h : ErrTab w) (o : Obj) : ErrTab (w.alloc o) := errTab_below h ((Below.refl _ _).alloc (Nat.le_refl _) o) (errTab_lt h)

set_option maxHeartbeats 1000000 in
/-- The place of an error that has one. -/
theorem place_fault (k l a : Nat) (h1 : 1 ≤ k) (h2 : k ≤ 32) (w : World) (hg : ErrTab w) :
    Calls Tryz.prog 24 #[.iface 98 (.agg #[.int .i64 k, .int .i64 l, .int .i64 a])] w fun e w' => e = .returned (.tuple #[.int .i64 l, .int .i64 a, .bool true]) ∧ Below w.heap.size w w' := by
  have HG := Lib.hid hg
  clear hg
  have hne := eql_nil_iface 98 (.agg #[.int .i64 k, .int .i64 l, .int .i64 a])
  go_enter Tryz.func24, Tryz.ntmps24
  go_wp2_with fail
  refine (as_fault k l a w.heap.size _ _ (errTab_alloc HG.out _) (heap_alloc_new w _) (by rfl) (errTab_lt HG.out)).mono ?_
  rintro e w1 ⟨rfl, hb1, hs1, hr1⟩
  have B1 := Lib.hid (((Below.refl w.heap.size w).alloc (Nat.le_refl _) _).trans hb1)
  have c0 : w1.cell? ⟨w.heap.size, 0, none⟩ = some (.int .i64 k) := Lib.cell_of_heap hr1 0
  have c1 : w1.cell? ⟨w.heap.size, 1, none⟩ = some (.int .i64 l) := Lib.cell_of_heap hr1 1
  have c2 : w1.cell? ⟨w.heap.size, 2, none⟩ = some (.int .i64 a) := Lib.cell_of_heap hr1 2
  have hlt : w.heap.size < w1.heap.size := by simp at hs1; omega
  clear hb1 hr1 hs1
  go_wp2_with fail
  go_region_held3 (fun wx => wx.cell? ⟨w.heap.size, 0, none⟩ = some (.int .i64 k) ∧ wx.cell? ⟨w.heap.size, 1, none⟩ = some (.int .i64 l) ∧ wx.cell? ⟨w.heap.size, 2, none⟩ = some (.int .i64 a)) (go_keep) ((go_at_call 40; refine (num_fault k l a h1 h2 _).mono ?_; rintro e w2 ⟨rfl, hb2⟩; have d0 := (hb2.cell (p := ⟨w.heap.size, 0, none⟩) hlt).trans c0; have d1 := (hb2.cell (p := ⟨w.heap.size, 1, none⟩) hlt).trans c1; have d2 := (hb2.cell (p := ⟨w.heap.size, 2, none⟩) hlt).trans c2; have B2 : Hid (Below w.heap.size w w2) := Lib.hid (B1.out.trans ((show Below w1.heap.size w1 w2 from ⟨hb2.os, hb2.tape, hb2.output, hb2.size, hb2.block⟩).mono B1.out.size)); clear hb2))
  go_wp2
  go_ret3
  exact ⟨rfl, B2.out⟩

/-- Is an error's number this one, and tells it this place? It is, and it does. -/
theorem at_fault (k l a : Nat) (h1 : 1 ≤ k) (h2 : k ≤ 32) (w : World) (hg : ErrTab w) :
    Calls Tryz.prog 18 #[.iface 98 (.agg #[.int .i64 k, .int .i64 l, .int .i64 a]), .int .i64 k, .int .i64 l, .int .i64 a] w fun e w' => e = .returned (.bool true) ∧ Below w.heap.size w w' := by
  have hk : ¬ k = 0 := by omega
  go_enter Tryz.func18, Tryz.ntmps18
  go_wp2_with fail
  refine (place_fault k l a h1 h2 _ hg).mono ?_
  rintro e w1 ⟨rfl, hb1⟩
  have B1 := Lib.hid hb1
  clear hb1
  go_wp2_with fail
  refine (num_fault k l a h1 h2 _).mono ?_
  rintro e w2 ⟨rfl, hb2⟩
  have B2 := Lib.hid (B1.out.trans (hb2.mono B1.out.size))
  clear hb2
  go_wp2
  go_ret
  exact ⟨rfl, B2.out⟩
theorem at_nil (l a : Nat) (w : World) : Calls Tryz.prog 18 #[.nilIface, .int .i64 0, .int .i64 l, .int .i64 a] w fun e w' => e = .returned (.bool true) ∧ w = w' := by
  go_enter Tryz.func18, Tryz.ntmps18
  go_wp2
  go_ret
  exact ⟨rfl, rfl⟩
end Err
end Go.Proofs.YtlfeddgpfaigkaaGreatDoor
