/-
  The walks of digest.turn and of a hash's block at this seat's translation.
-/
import Derived.Test.YtgjelinnpcekmaaDoorShaH
import Derived.StillTailTactics
import Derived.Deep.RegionHeld3
import Derived.IntWalk
import Derived.OwnWalk
import Derived.Lib.LaidTab
namespace Go.Proofs.YtgjelinnpcekmaaDoor
open Go.RowKit Sha

theorem store_W {P : Program} {w : World} {b i : Nat} {u : Value} (x : UInt32) (h : w.cell? ⟨b, i, none⟩ = some u) (hf : w.frozen? ⟨b, i, none⟩ = false) :
    (storeCells ⟨b, i, none⟩ [W x]).run P w = .ok () (w.setCell ⟨b, i, none⟩ (W x)) := by
  unfold W
  go_simp
theorem store_U8 {P : Program} {w : World} {b i : Nat} {u : Value} (x : UInt8) (h : w.cell? ⟨b, i, none⟩ = some u) (hf : w.frozen? ⟨b, i, none⟩ = false) :
    (storeCells ⟨b, i, none⟩ [U8 x]).run P w = .ok () (w.setCell ⟨b, i, none⟩ (U8 x)) := by
  unfold U8
  go_simp
/-- It answers this, and has only drawn. -/
def Quiet (v : Value) (w : World) (e : Ending) (w' : World) : Prop := e = .returned v ∧ ∃ m, w' = w.drewN m
theorem turn_any (x : UInt32) (n : Nat) (h1 : 1 ≤ n) (h2 : n ≤ 31) (w : World) : Calls Tryd.prog 57 #[W x, .int .i64 n] w (Quiet (W (rot x n)) w) := by
  have f1 : ∀ wx, (binOp .shr 79 (W x) (.int .i64 n)).run Tryd.prog wx = .ok (W (x >>> UInt32.ofNat n)) wx := fun wx => shr_W x wx .i64 n (by omega)
  have f2 : ∀ wx, (binOp .shl 79 (W x) (.int .i64 (32 - (n : Int)))).run Tryd.prog wx = .ok (W (x <<< UInt32.ofNat (32 - n))) wx := fun wx => by
    rw [show (32 - (n : Int)) = ((32 - n : Nat) : Int) by omega]
    exact shl_W x wx .i64 (32 - n) (by omega)
  have f3 := or_W
  have hw : IntKind.i64.wrap (32 - (n : Int)) = 32 - (n : Int) := IntWalk.i64_in _ (by omega)
  clear h1 h2
  go_enter Tryd.func57, Tryd.ntmps57
  go_wp2_with fail
  go_quiet (fail)
  go_wp2
  go_ret
  exact ⟨rfl, _, rfl⟩
theorem turnZ (x : UInt32) (z : Int) (h1 : 1 ≤ z) (h2 : z ≤ 31) (w : World) : Calls Tryd.prog 57 #[W x, .int .i64 z] w fun e w' => e = .returned (W (rot x z.toNat)) ∧ ∃ m, w' = w.drewN m := by
  have h := turn_any x z.toNat (by omega) (by omega) w
  rw [show (z.toNat : Int) = z by omega] at h
  exact h
theorem built8 (a b c d e f g h : UInt32) : Tryd.prog.built 80 [(0, W a), (1, W b), (2, W c), (3, W d), (4, W e), (5, W f), (6, W g), (7, W h)] = some #[W a, W b, W c, W d, W e, W f, W g, W h] := by
  unfold W
  kernel_rfl
end Go.Proofs.YtgjelinnpcekmaaDoor
