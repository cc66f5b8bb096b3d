/-
  For rows of this seat: an argument that is a list of structs, opened element by element, with its bulk.
-/
import Derived.Test.YtgjelinnpcekmaaDoorMem
import Derived.Test.YtgjelinnpcekmaaDoorRows
import Derived.Lib.LaidTab
import Derived.LaidSub
import Derived.SliceStrings
import Derived.ChangeMaps5
import Derived.SevenTiedAt
import Derived.Deep.Strs
import Derived.ProofKit
namespace Go.Proofs.YtgjelinnpcekmaaDoor
open Go.ChangeShapes Go.WideShapes Go.ChangeAt Go.RowKit

theorem flat_cells {w : World} {a : Addr} {sz : Nat} : ∀ (rows : List (List Value)) (i0 : Nat), (∀ i, i < rows.length → (rows.getD i []).length = sz ∧ ∀ m, m < sz → w.cell? (a.add ((i0 + i) * sz + m)) = (rows.getD i [])[m]?) →
    rows.flatten.length = rows.length * sz ∧ ∀ j u, rows.flatten[j]? = some u → w.cell? (a.add (i0 * sz + j)) = some u
  | [], i0, _ => ⟨by simp, fun j u h => by simp at h⟩
  | r :: rest, i0, h => by
    obtain ⟨h1, h2⟩ := h 0 (by simp)
    obtain ⟨h3, h4⟩ := flat_cells rest (i0 + 1) (fun i hi => by
      have := h (i + 1) (by simpa using hi)
      simp only [List.getD_cons_succ] at this
      rw [show i0 + (i + 1) = i0 + 1 + i by omega] at this
      exact this)
    simp only [List.getD_cons_zero, Nat.add_zero] at h1 h2
    refine ⟨by rw [List.flatten_cons, List.length_append, h3, h1, List.length_cons, Nat.succ_mul]; omega, fun j u hu => ?_⟩
    rw [List.flatten_cons] at hu
    by_cases hj : j < r.length
    · rw [List.getElem?_append_left hj] at hu
      rw [h2 j (by omega)]; exact hu
    · rw [List.getElem?_append_right (by omega)] at hu
      have := h4 (j - r.length) u hu
      rw [show (i0 + 1) * sz + (j - r.length) = i0 * sz + j by rw [Nat.succ_mul]; omega] at this
      exact this
theorem bulk_append {H : Type} (a b : List (DataW H)) : Rows.uptoBulkAll (a ++ b) = Rows.uptoBulkAll a + Rows.uptoBulkAll b := by
  induction a with
  | nil => simp [Rows.uptoBulkAll]
  | cons d a ih => rw [List.cons_append, Rows.uptoBulkAll, Rows.uptoBulkAll, ih]; omega
/-- An argument that is a list of structs: its rows of cells, each read as a datum. -/
theorem open_rows {H : Type} {enc : TypeId × Value → H} {P : Program} {w : World} {base : Nat} {sp : Nat → Bool} {held : Bool} {t e : TypeId} {r : Reach} {b0 : Nat} {v : Value} {d : DataW H} {ps : List MemPlace}
    (ht : P.underlying t = some (.slice e)) (hsz : 0 < P.cellsOf e) (hv : Value.okWide P w r b0 t v) (h : DataW.Trod enc P w base sp held t v d ps) :
    ∃ (A : Option Addr) (n c : Nat) (rows : List (List Value)) (ds : List (DataW H)), v = .slice A n c ∧ rows.length = n ∧ ds.length = n ∧ (∀ i, i < n → ∃ fuel ps', DataW.trod enc P w base sp held fuel e (rows.getD i []) = some (ds.getD i .nil, ps')) ∧ Reads w w.heap.size (P.cellsOf e) A n rows.flatten ∧ Rows.uptoBulkAll ds ≤ Rows.uptoBulk d := by
  obtain ⟨a0, len, cap, rfl⟩ := okWide_slice ht hv
  obtain ⟨fuel, hf⟩ := h
  rcases DataW.trod_slice ht hf with ⟨hcs, hx⟩ | ⟨a, len', cap', elems, rest, n, _, hcs, hx, hb, hl, hm, hlen, hel, _, _⟩
  · simp only [Value.cells, List.cons.injEq, Value.slice.injEq, and_true] at hcs
    obtain ⟨rfl, rfl, rfl⟩ := hcs
    exact ⟨none, 0, 0, [], [], rfl, rfl, rfl, fun i hi => by omega, ⟨by simp, fun hn => by omega⟩, by simp [Rows.uptoBulkAll]⟩
  · simp only [Value.cells, List.cons.injEq, Value.slice.injEq, and_true] at hcs
    obtain ⟨rfl, rfl, rfl⟩ := hcs
    injection hx with hd _
    subst hd
    have hrow : ∀ i, i < len → ∃ cs y, w.cells? base (a.add (i * P.cellsOf e)) (P.cellsOf e) = some cs ∧ elems[i]? = some y ∧ DataW.trod enc P w base sp held n e cs = some y := by
      intro i hi
      have h1 := hel i hi
      have h2 : elems[i]? = some (elems[i]'(by omega)) := List.getElem?_eq_getElem (by omega)
      rw [h2, Option.bind_eq_some_iff] at h1
      obtain ⟨cs, h3, h4⟩ := h1
      exact ⟨cs, _, h3, h2, h4⟩
    let f : Nat → List Value := fun i => (w.cells? base (a.add (i * P.cellsOf e)) (P.cellsOf e)).getD []
    have hget : ∀ i, i < len → ((List.range len).map f).getD i [] = f i := fun i hi => by simp [List.getD, hi]
    have hcell : ∀ i, i < len → ((List.range len).map f).getD i [] = f i ∧ (f i).length = P.cellsOf e ∧ ∀ m, m < P.cellsOf e → w.cell? (a.add (i * P.cellsOf e + m)) = (f i)[m]? := fun i hi => by
      obtain ⟨cs, y, h3, _, _⟩ := hrow i hi
      obtain ⟨_, h5, h6⟩ := World.cells?_some h3
      have hfi : f i = cs := by simp [f, h3]
      refine ⟨hget i hi, by rw [hfi]; exact h5, fun m hm => ?_⟩
      rw [hfi, ← h6 m hm, add_of_add]
    obtain ⟨h7, h8⟩ := flat_cells (w := w) (a := a) (sz := P.cellsOf e) ((List.range len).map f) 0 (fun i hi => by
      have hi' : i < len := by simpa using hi
      obtain ⟨e1, e2, e3⟩ := hcell i hi'
      rw [e1]
      refine ⟨e2, fun m hm => ?_⟩
      rw [Nat.zero_add]; exact e3 m hm)
    refine ⟨some a, len, cap, (List.range len).map f, elems.map (·.1), rfl, by simp, by simpa using hlen, fun i hi => ?_, ⟨by simpa using h7, fun hn => ⟨a, rfl, ?_, fun j u hu => ?_⟩⟩, ?_⟩
    · obtain ⟨cs, y, h3, h4, h5⟩ := hrow i hi
      refine ⟨n, y.2, ?_⟩
      have hfi : f i = cs := by simp [f, h3]
      rw [hget i hi, hfi, h5]
      simp [List.getD, List.getElem?_map, h4]
    · obtain ⟨e1, e2, e3⟩ := hcell 0 (by omega)
      have h9 := e3 0 hsz
      rw [List.getElem?_eq_getElem (by omega)] at h9
      have := block_lt_of_cell h9
      rwa [block_of_add] at this
    · have := h8 j u hu
      simpa using this
    · rw [Rows.uptoBulk]; omega
end Go.Proofs.YtgjelinnpcekmaaDoor
