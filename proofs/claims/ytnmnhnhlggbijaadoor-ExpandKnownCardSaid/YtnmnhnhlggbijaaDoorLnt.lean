/-
  The walks of stratakit's MarkText and markTexts at this seat's translation.
-/
import Derived.Test.YtnmnhnhlggbijaaDoorSmt
import Derived.Test.YtnmnhnhlggbijaaDoorByt
import Derived.IntWalk
namespace Go.Proofs.YtnmnhnhlggbijaaDoor
open Go.RowKit

/-- The mark of a place in a list. -/
def mtI (k : Nat) (i : Int) : List UInt8 := [35, .ofNat k, .ofNat (k / 256), .ofNat (i % 256).toNat, .ofNat (i / 256 % 256).toNat]
theorem mtI_cells (k : Nat) (i : Int) : Lib.byteCells (mtI k i) = [.int .u8 35, .int .u8 ((k : Int) % 256), .int .u8 ((k : Int) / 256 % 256), .int .u8 (i % 256), .int .u8 (i / 256 % 256)] := by
  simp only [Lib.byteCells, mtI, List.map_cons, List.map_nil, UInt8.toNat_ofNat']
  have h1 : (((i % 256).toNat % 2 ^ 8 : Nat) : Int) = i % 256 := by omega
  have h2 : (((i / 256 % 256).toNat % 2 ^ 8 : Nat) : Int) = i / 256 % 256 := by omega
  rw [h1, h2]
  rfl
set_option maxRecDepth 100000 in
theorem markTextI_any (k : Nat) (i : Int) (w : World) :
    Calls Tryd.prog 58 #[.int .i64 k, .int .i64 i] w fun e w' => e = .returned (.string ⟨(mtI k i).toArray⟩) ∧ Below w.heap.size w w' := by
  have hcv := run_convert_reads (P := Tryd.prog) Tryd.underlying54 Tryd.underlying5 Tryd.underlying9 5 (l := mtI k i) (by
    rw [mtI_cells]
    exact Reads.of_block (n := 5) (size := 1) (heap_alloc_new w (.cells #[.int .u8 35, .int .u8 ((k : Int) % 256), .int .u8 ((k : Int) / 256 % 256), .int .u8 (i % 256), .int .u8 (i / 256 % 256)] 5)) rfl)
  generalize mtI k i = x at hcv
  have hsh : ∀ z : Int, (z >>> (8 : Nat)) = z / 256 := fun z => by rw [Int.shiftRight_eq_div_pow]; rfl
  go_enter Tryd.func58, Tryd.ntmps58
  go_wp2
  go_ret
  exact ⟨rfl, (Below.refl _ _).alloc (Nat.le_refl _) _⟩
theorem markTexts_any (k : Nat) (i : Int) (w : World) :
    Calls Tryd.prog 66 #[.int .i64 k, .int .i64 i] w fun e w' => e = .returned (.string ⟨(mtI k i).toArray⟩) ∧ Below w.heap.size w w' := by
  have HM := Lib.hid (markTextI_any k i)
  go_enter Tryd.func66, Tryd.ntmps66
  go_wp2_with fail
  refine (HM.out _).mono ?_
  rintro e w' ⟨rfl, hb⟩
  have HB := Lib.hid hb
  clear hb
  go_wp2
  go_ret
  exact ⟨rfl, HB.out⟩
/-- The sixteen marks behind a lent list. -/
def lmk (n : Nat) : List (List UInt8) := (List.range n).map fun (i : Nat) => mtI 90 (i : Int)
theorem lmk_succ (n : Nat) : lmk (n + 1) = lmk n ++ [mtI 90 (n : Int)] := by unfold lmk; rw [List.range_succ, List.map_append]; rfl
theorem lmk_len (n : Nat) : (lmk n).length = n := by simp [lmk]
theorem lmk_getD (n k : Nat) (h : k < n) : (lmk n).getD k [] = mtI 90 (k : Int) := by simp [lmk, List.getD, h]
end Go.Proofs.YtnmnhnhlggbijaaDoor
