/-
  An argument of the struct of two texts and two bytes, opened with its bulk.
-/
import Derived.Test.YtapghojjkeegjaaDoorRowH
import Derived.Lib.SmallJoins
namespace Go.Proofs.YtapghojjkeegjaaDoor
open Go.ChangeShapes Go.WideShapes Go.ChangeAt Go.RowKit
theorem u8_wf {n : Int} (hw : (Lit.int .u8 n).wf = true) : ∃ c : UInt8, n = c.toNat := by
  have hb : 0 ≤ n ∧ n < 256 := by
    have h0 : IntKind.u8.min = 0 := rfl
    have h1 : IntKind.u8.max = 255 := rfl
    simp [Lit.wf] at hw
    omega
  refine ⟨UInt8.ofNat n.toNat, ?_⟩
  rw [UInt8.toNat_ofNat']
  omega
set_option maxRecDepth 100000 in
theorem open_join {H : Type} {enc : TypeId × Value → H} {w : World} {base : Nat} {sp : Nat → Bool} {held : Bool} {v : Value} {d : DataW H} {ps : List MemPlace} {r : Reach} {b0 : Nat}
    (hv : Value.okWide Tryd.prog w r b0 44 v) (h : DataW.Trod enc Tryd.prog w base sp held 44 v d ps) :
    ∃ (s t : List UInt8) (c b : UInt8), v = .agg #[.string ⟨s.toArray⟩, .string ⟨t.toArray⟩, .int .u8 c.toNat, .int .u8 b.toNat] ∧ s.length + t.length ≤ Rows.uptoBulk d := by
  obtain ⟨v0, v1, v2, v3, y0, y1, y2, y3, n, rfl, rfl, rfl, h0, h1, h2, h3⟩ := Go.Joins.open_agg4 Tryd.underlying44 (by kernel_rfl) (by kernel_rfl) hv h
  obtain ⟨s, e0, rfl, _⟩ := DataW.trod_string Tryd.underlying9 h0
  obtain ⟨t, e1, rfl, _⟩ := DataW.trod_string Tryd.underlying9 h1
  obtain ⟨c, e2, rfl, hc⟩ := DataW.trod_int Tryd.underlying5 h2
  obtain ⟨b, e3, rfl, hb⟩ := DataW.trod_int Tryd.underlying5 h3
  obtain ⟨c', rfl⟩ := u8_wf hc
  obtain ⟨b', rfl⟩ := u8_wf hb
  simp only [List.cons.injEq, and_true] at e0 e1 e2 e3
  subst e0 e1 e2 e3
  exact ⟨s.data.toList, t.data.toList, c', b', by simp, by simp [Rows.uptoBulk, Rows.uptoBulkAll]; omega⟩
end Go.Proofs.YtapghojjkeegjaaDoor
