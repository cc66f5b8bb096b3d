/-
  Parts of the proof: Smt.
-/
import Derived.Test.YtjohdaobhonioaaGreatDoorPkFo1
import Derived.WalkSmall
import Derived.Lib.Hide
import Derived.WalkKit
import Derived.WalkLawsBesides
import Derived.Deep.QuietTactic
import Derived.BigQuiet
import Derived.IntWalk
import Derived.RegionTactic
namespace Go.Proofs.YtjohdaobhonioaaGreatDoor
open Go.RowKit
theorem below_drewN {B : Nat} {a w : World} (h : Below B a w) (n : Nat) : Below B a (w.drewN n) := ⟨h.os, h.tape, h.output, h.size, h.block⟩
theorem neq_texts (p q : List UInt8) (w : World) : (binOp .neq 9 (.string ⟨p.toArray⟩) (.string ⟨q.toArray⟩)).run Tryz.prog w = .ok (.bool (decide (p ≠ q))) w := by
 rw [binOp_string_neq, ByteArray.toList_eq, ByteArray.toList_eq]
 simp only [Sem.run_pure]
 congr 2
 by_cases h : p = q <;> simp [h]
end Go.Proofs.YtjohdaobhonioaaGreatDoor
