/-
  For every row of this seat: arguments opened, with their bulk.
-/
import Derived.Test.YtnmnhnhlggbijaaLaw
import Derived.Test.YtnmnhnhlggbijaaMem
import Derived.Test.YtnmnhnhlggbijaaRows
import Derived.SliceStrings
import Derived.ChangeMaps5
namespace Go.Proofs.Ytnmnhnhlggbijaa
open Go.ChangeShapes Go.WideShapes Go.ChangeAt Go.RowKit

theorem open_text {H : Type} {enc : TypeId × Value → H} {P : Program} {w : World} {base : Nat} {sp : Nat → Bool} {held : Bool} {t : TypeId} {v : Value} {d : DataW H} {ps : List MemPlace} {r : Reach} {b0 : Nat}
    (ht : P.underlying t = some .string) (hv : Value.okWide P w r b0 t v) (h : DataW.Trod enc P w base sp held t v d ps) : ∃ s : List UInt8, v = .string ⟨s.toArray⟩ ∧ s.length ≤ Rows.uptoBulk d := by
  obtain ⟨s, rfl, rfl, _⟩ := Go.ChangeMaps.open_string ht hv h
  exact ⟨s.data.toList, by simp, by simp [Rows.uptoBulk]⟩
theorem open_u8 {H : Type} {enc : TypeId × Value → H} {P : Program} {w : World} {base : Nat} {sp : Nat → Bool} {held : Bool} {t : TypeId} {v : Value} {d : DataW H} {ps : List MemPlace} {r : Reach} {b0 : Nat}
    (ht : P.underlying t = some (.int .u8)) (hv : Value.okWide P w r b0 t v) (h : DataW.Trod enc P w base sp held t v d ps) : ∃ c : UInt8, v = .int .u8 c.toNat := by
  obtain ⟨n, rfl, _, _, hw⟩ := Go.ChangeShapes.open_int ht hv h
  have hb : 0 ≤ n ∧ n < 256 := by
    have h0 : IntKind.u8.min = 0 := rfl
    have h1 : IntKind.u8.max = 255 := rfl
    simp [Lit.wf] at hw
    omega
  refine ⟨UInt8.ofNat n.toNat, ?_⟩
  rw [UInt8.toNat_ofNat']
  congr 1
  omega
end Go.Proofs.Ytnmnhnhlggbijaa
