/-
  Numbers of 32 bits as values that the walk does not look into, and what the operations make of them.
-/
import Derived.Test.YtgjelinnpcekmaaDoorShaP
import Derived.Test.YtgjelinnpcekmaaDoorKit
import Derived.Test.YtgjelinnpcekmaaDoorProg
import Derived.BigQuiet
import Derived.Deep.QuietTactic
import Derived.Laws.Shifts
import Derived.Laws.BitsAllLaws
namespace Go.Proofs.YtgjelinnpcekmaaDoor
open Go.RowKit

/-- A number of 32 bits, a byte: as values. -/
def W (x : UInt32) : Value := .int .u32 x.toNat
def U8 (c : UInt8) : Value := .int .u8 c.toNat
section
variable (x y : UInt32) (c : UInt8) (w : World)
theorem add_W : (binOp .add 79 (W x) (W y)).run Tryd.prog w = .ok (W (x + y)) w := by
  unfold W; go_simp; rw [IntKind.wrap_u32']
theorem xor_W : (binOp .xor 79 (W x) (W y)).run Tryd.prog w = .ok (W (x ^^^ y)) w := by
  unfold W; go_simp; exact u32_xor_nat _ _ x.toNat_lt y.toNat_lt
theorem and_W : (binOp .and 79 (W x) (W y)).run Tryd.prog w = .ok (W (x &&& y)) w := by
  unfold W; go_simp; exact u32_and_nat _ _ x.toNat_lt y.toNat_lt
theorem or_W : (binOp .or 79 (W x) (W y)).run Tryd.prog w = .ok (W (x ||| y)) w := by
  unfold W; go_simp; exact u32_or_nat _ _ x.toNat_lt y.toNat_lt
theorem not_nat : (4294967295 ^^^ x.toNat : Nat) = (~~~x).toNat := by
  have h : (~~~x : UInt32) = UInt32.ofBitVec (BitVec.allOnes 32 ^^^ x.toBitVec) := by
    rw [BitVec.allOnes_xor]; rfl
  rw [h]
  rfl
theorem not_W : (Op.unary .xor (W x)).run Tryd.prog w = .ok (W (~~~x)) w := by
  unfold W
  go_simp
  have h := u32_xor_nat 4294967295 x.toNat (by omega) x.toNat_lt
  rw [show (if IntKind.u32.signed = true then (-1 : Int) else IntKind.u32.max) = ((4294967295 : Nat) : Int) from rfl, h, not_nat]
  simp
theorem shr_W (k : IntKind) (n : Nat) (hn : n < 32) : (binOp .shr 79 (W x) (.int k n)).run Tryd.prog w = .ok (W (x >>> UInt32.ofNat n)) w := by
  unfold W; go_simp
  rw [Nat.mod_eq_of_lt hn, ← Int.natCast_shiftRight, Nat.shiftRight_eq_div_pow]
  simp
theorem shl_W (k : IntKind) (n : Nat) (hn : n < 32) : (binOp .shl 79 (W x) (.int k n)).run Tryd.prog w = .ok (W (x <<< UInt32.ofNat n)) w := by
  unfold W; go_simp
  rw [Nat.mod_eq_of_lt hn, IntKind.wrap_u32', ← Int.natCast_shiftLeft, Nat.shiftLeft_eq]
  simp
theorem conv_W : (convert 5 79 (U8 c)).run Tryd.prog w = .ok (W c.toUInt32) w := by
  unfold W U8; go_simp; rw [IntKind.wrap_u32']; have := c.toNat_lt; omega
theorem byte_W : (convert 79 5 (W x)).run Tryd.prog w = .ok (U8 x.toUInt8) w := by
  unfold W U8; go_simp; rw [IntKind.wrap_u8']
end
end Go.Proofs.YtgjelinnpcekmaaDoor
