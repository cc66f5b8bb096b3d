/-
  The walk of stratalaw03's DigestKnown at this seat's translation.
-/
import Derived.Test.YtgjelinnpcekmaaGreatDoorJD
import Derived.Test.YtgjelinnpcekmaaGreatDoorDiU
namespace Go.Proofs.YtgjelinnpcekmaaGreatDoor
open Go.RowKit Err Plain Sha
namespace DK
set_option maxHeartbeats 1000000 in
theorem digestKnown_any (w : World) (ht : Tabs w) : Calls Tryz.prog 3 #[] w fun e w' => e = .returned (.bool true) ∧ Below w.heap.size w w' := by
  have HT := Lib.hid ht
  clear ht
  go_enter Tryz.func3, Tryz.ntmps3
  go_wp2_with fail
  refine (shown_any w HT.out).mono ?_
  rintro e w1 ⟨rfl, h1, _⟩
  go_wp2_with fail
  refine (sums_any w1 (h1.tabs HT.out)).mono ?_
  rintro e w2 ⟨rfl, h2x, _⟩
  have h2 := h1.then h2x
  clear h2x
  go_wp2_with fail
  refine (texts_any w2 (h2.tabs HT.out)).mono ?_
  rintro e w3 ⟨rfl, h3x, _⟩
  have h3 := h2.then h3x
  clear h3x
  go_wp2_with fail
  refine (laid_any w3 (h3.tabs HT.out)).mono ?_
  rintro e w4 ⟨rfl, h4x, _⟩
  have h4 := h3.then h4x
  clear h4x
  go_wp2_with fail
  refine (clashes_any w4 (h4.tabs HT.out)).mono ?_
  rintro e w5 ⟨rfl, h5x, _⟩
  have h5 := h4.then h5x
  clear h5x
  go_wp2_with fail
  go_ret
  exact ⟨rfl, h5⟩
end DK
end Go.Proofs.YtgjelinnpcekmaaGreatDoor
