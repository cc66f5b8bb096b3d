/-
  An argument that is a list of texts, opened with its bulk.
-/
import Derived.Test.YtlfeddgpfaigkaaGreatDoorRowH
import Derived.Test.YtlfeddgpfaigkaaGreatDoorTx
namespace Go.Proofs.YtlfeddgpfaigkaaGreatDoor
open Go.ChangeShapes Go.WideShapes Go.ChangeAt Go.RowKit

theorem bulk_strs {H : Type} (ss : List ByteArray) : Rows.uptoBulkAll (strs ss : List (DataW H)) = total (ss.map fun s => s.data.toList) + ss.length := by
  induction ss with
  | nil => simp [strs, Rows.uptoBulkAll, total]
  | cons s r ih =>
    have e : (strs (s :: r) : List (DataW H)) = .lit (.string s.data.toList) :: strs r := rfl
    rw [e, Rows.uptoBulkAll, ih, Rows.uptoBulk]
    simp only [total, List.map_cons, List.sum_cons, List.length_cons]
    omega

/-- An argument that is a list of texts: it reads as one, and its bulk holds all of it. -/
theorem open_texts {H : Type} {enc : TypeId × Value → H} {P : Program} {w : World} {base : Nat} {sp : Nat → Bool} {held : Bool} {t e : TypeId} {r : Reach} {b0 : Nat} {v : Value} {d : DataW H} {ps : List MemPlace}
    (ht : P.underlying t = some (.slice e)) (he : P.underlying e = some .string) (hc : P.cellsOf e = 1) (hv : Value.okWide P w r b0 t v) (h : DataW.Trod enc P w base sp held t v d ps) :
    ∃ A n c l, v = .slice A n c ∧ Reads w w.heap.size 1 A n (tx l) ∧ total l + l.length ≤ Rows.uptoBulk d := by
  obtain ⟨a0, len, cap, rfl⟩ := okWide_slice ht hv
  obtain ⟨fuel, hf⟩ := h
  rcases open_strings ht he hc hf with ⟨hcs, hx⟩ | ⟨a, len', cap', ss, hcs, _, hl, hm, hz, hx, hcell, hsz⟩
  · simp only [Value.cells, List.cons.injEq, Value.slice.injEq, and_true] at hcs
    obtain ⟨rfl, rfl, rfl⟩ := hcs
    exact ⟨none, 0, 0, [], rfl, Reads.none_, by simp [total]⟩
  · simp only [Value.cells, List.cons.injEq, Value.slice.injEq, and_true] at hcs
    obtain ⟨rfl, rfl, rfl⟩ := hcs
    injection hx with hd _
    subst hd
    have hlen : len ≤ ss.length := by rw [hz]; split <;> omega
    refine ⟨some a, len, cap, (ss.take len).map fun s => s.data.toList, rfl, ⟨?_, fun hn => ⟨a, rfl, ?_, ?_⟩⟩, ?_⟩
    · rw [tx_length]; simp; omega
    · have h0 := hcell 0 (by omega)
      rcases Nat.lt_or_ge a.block w.heap.size with h1 | h1
      · exact h1
      · unfold World.cell? at h0
        rw [show (a.add 0).block = a.block from block_of_add a 0, Array.getElem?_eq_none h1] at h0
        cases h0
    · intro j u hu
      have hj : j < len := by
        have := (List.getElem?_eq_some_iff.1 hu).1
        rw [tx_length] at this; simp at this; omega
      have hs : j < ss.length := by omega
      rw [hcell j hs, ← hu]
      simp only [tx, List.map_map, List.getElem?_map, List.getElem?_take, if_pos hj, List.getElem?_eq_getElem hs, Option.map_some, Function.comp, List.getD, Option.getD_some]
    · rw [Rows.uptoBulk, bulk_strs]
      simp only [List.length_map]
      omega
end Go.Proofs.YtlfeddgpfaigkaaGreatDoor
