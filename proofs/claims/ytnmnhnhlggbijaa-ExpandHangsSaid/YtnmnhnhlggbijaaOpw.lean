/-
  For rows of this seat: an argument that is a list of structs, opened element by element, with what its parts weigh.
-/
import Derived.Test.YtnmnhnhlggbijaaMem
import Derived.Test.YtnmnhnhlggbijaaPrs
import Derived.Test.YtnmnhnhlggbijaaProg
import Derived.Lib.LaidTab
import Derived.LaidSub
import Derived.SliceStrings
import Derived.ChangeMaps5
import Derived.SevenTiedAt
import Derived.Deep.Strs
import Derived.ProofKit
namespace Go.Proofs.Ytnmnhnhlggbijaa
open Go.ChangeShapes Go.WideShapes Go.ChangeAt Go.RowKit

theorem flat_cellsW {w : World} {a : Addr} {sz : Nat} : ∀ (rows : List (List Value)) (i0 : Nat), (∀ i, i < rows.length → (rows.getD i []).length = sz ∧ ∀ m, m < sz → w.cell? (a.add ((i0 + i) * sz + m)) = (rows.getD i [])[m]?) →
    rows.flatten.length = rows.length * sz ∧ ∀ j u, rows.flatten[j]? = some u → w.cell? (a.add (i0 * sz + j)) = some u
  | [], i0, _ => ⟨by simp, fun j u h => by simp at h⟩
  | r :: rest, i0, h => by
    obtain ⟨h1, h2⟩ := h 0 (by simp)
    obtain ⟨h3, h4⟩   := flat_cellsW rest (i0 + 1) (fun i hi => by
      have := h (i + 1) (by simpa using hi)
      simp only [List.getD_cons_succ] at this
      rw [show i0 + (i + 1) = i0 + 1 + i by omega] at this
      exact this)
    simp only [List.getD_cons_zero, Nat.add_zero] at h1 h2
    refine ⟨by rw [List.flatten_cons, List.length_append, h3, h1, List.length_cons, Nat.succ_mul]; omega, fun j u hu => ?_⟩
    rw [List.flatten_cons] at hu
    by_cases hj : j < r.length
    · rw [List.getElem?_append_left hj] at hu
      rw [h2 j (by omega)]; exact hu
    · rw [List.getElem?_append_right (by omega)] at hu
      have := h4 (j - r.length) u hu
      rw [show (i0 + 1) * sz + (j - r.length) = i0 * sz + j by rw [Nat.succ_mul]; omega] at this
      exact this
/-- An argument that is a list of structs: its rows of cells, each read as a datum. -/
theorem open_rowsW {H : Type} {enc : TypeId × Value → H} {P : Program} {w : World} {base : Nat} {sp : Nat → Bool} {held : Bool} {t e : TypeId} {r : Reach} {b0 : Nat} {v : Value} {d : DataW H} {ps : List MemPlace}
    (ht : P.underlying t = some (.slice e)) (hsz : 0 < P.cellsOf e) (hv : Value.okWide P w r b0 t v) (h : DataW.Trod enc P w base sp held t v d ps) :
    ∃ (A : Option Addr) (n c : Nat) (rows : List (List Value)) (ds : List (DataW H)), v = .slice A n c ∧ rows.length = n ∧ ds.length = n ∧ (∀ i, i < n → ∃ fuel ps', DataW.trod enc P w base sp held fuel e (rows.getD i []) = some (ds.getD i .nil, ps')) ∧ Reads w w.heap.size (P.cellsOf e) A n rows.flatten ∧ ∀ x ∈ DataW.weightsAll P e ds, x ∈ d.weights P t := by
  obtain ⟨a0, len, cap, rfl⟩ := okWide_slice ht hv
  obtain ⟨fuel, hf⟩ := h
  rcases DataW.trod_slice ht hf with ⟨hcs, hx⟩ | ⟨a, len', cap', elems, rest, n, _, hcs, hx, hb, hl, hm, hlen, hel, _, _⟩
  · simp only [Value.cells, List.cons.injEq, Value.slice.injEq, and_true] at hcs
    obtain ⟨rfl, rfl, rfl⟩ := hcs
    exact ⟨none, 0, 0, [], [], rfl, rfl, rfl, fun i hi => by omega, ⟨by simp, fun hn => by omega⟩, fun x hx => by simp [DataW.weightsAll] at hx⟩
  · simp only [Value.cells, List.cons.injEq, Value.slice.injEq, and_true] at hcs
    obtain ⟨rfl, rfl, rfl⟩ := hcs
    injection hx with hd _
    subst hd
    have hrow : ∀ i, i < len → ∃ cs y, w.cells? base (a.add (i * P.cellsOf e)) (P.cellsOf e) = some cs ∧ elems[i]? = some y ∧ DataW.trod enc P w base sp held n e cs = some y := by
      intro i hi
      have h1 := hel i hi
      have h2 : elems[i]? = some (elems[i]'(by omega)) := List.getElem?_eq_getElem (by omega)
      rw [h2, Option.bind_eq_some_iff] at h1
      obtain ⟨cs, h3, h4⟩ := h1
      exact ⟨cs, _, h3, h2, h4⟩
    let f : Nat → List Value := fun i => (w.cells? base (a.add (i * P.cellsOf e)) (P.cellsOf e)).getD []
    have hget : ∀ i, i < len → ((List.range len).map f).getD i [] = f i := fun i hi => by simp [List.getD, hi]
    have hcell : ∀ i, i < len → ((List.range len).map f).getD i [] = f i ∧ (f i).length = P.cellsOf e ∧ ∀ m, m < P.cellsOf e → w.cell? (a.add (i * P.cellsOf e + m)) = (f i)[m]? := fun i hi => by
      obtain ⟨cs, y, h3, _, _⟩ := hrow i hi
      obtain ⟨_, h5, h6⟩ := World.cells?_some h3
      have hfi : f i = cs := by simp [f, h3]
      refine ⟨hget i hi, by rw [hfi]; exact h5, fun m hm => ?_⟩
      rw [hfi, ← h6 m hm, add_of_add]
    obtain ⟨h7, h8⟩   := flat_cellsW (w := w) (a := a) (sz := P.cellsOf e) ((List.range len).map f) 0 (fun i hi => by
      have hi' : i < len := by simpa using hi
      obtain ⟨e1, e2, e3⟩ := hcell i hi'
      rw [e1]
      refine ⟨e2, fun m hm => ?_⟩
      rw [Nat.zero_add]; exact e3 m hm)
    refine ⟨some a, len, cap, (List.range len).map f, elems.map (·.1), rfl, by simp, by simpa using hlen, fun i hi => ?_, ⟨by simpa using h7, fun hn => ⟨a, rfl, ?_, fun j u hu => ?_⟩⟩, ?_⟩
    · obtain ⟨cs, y, h3, h4, h5⟩ := hrow i hi
      refine ⟨n, y.2, ?_⟩
      have hfi : f i = cs := by simp [f, h3]
      rw [hget i hi, hfi, h5]
      simp [List.getD, List.getElem?_map, h4]
    · obtain ⟨e1, e2, e3⟩ := hcell 0 (by omega)
      have h9 := e3 0 hsz
      rw [List.getElem?_eq_getElem (by omega)] at h9
      have := block_lt_of_cell h9
      rwa [block_of_add] at this
    · have := h8 j u hu
      simpa using this
    · intro x hx
      simp only [DataW.weights, ht]
      exact List.mem_cons_of_mem _ (List.mem_append_left _ hx)
theorem px_inj : ∀ {l m : List (List UInt8 × List UInt8)}, px l = px m → l = m
  | [], [], _ => rfl
  | [], y :: m, h => by simp [px] at h
  | x :: l, [], h => by simp [px] at h
  | x :: l, y :: m, h => by
    have e : ∀ (z : List UInt8 × List UInt8) (k : List (List UInt8 × List UInt8)), px (z :: k) = .string ⟨z.1.toArray⟩ :: .string ⟨z.2.toArray⟩ :: px k := fun z k => by simp [px]
    rw [e, e] at h
    injection h with h1 h2
    injection h2 with h3 h4
    simp at h1 h3
    rw [px_inj h4]
    congr 1
    exact Prod.ext (by simpa using h1) (by simpa using h3)
set_option maxRecDepth 100000 in
theorem pairs_of {H : Type} {enc : TypeId × Value → H} {w : World} {base : Nat} {sp : Nat → Bool} {held : Bool} {N : Nat} : ∀ (rows : List (List Value)) (ds : List (DataW H)), rows.length = ds.length →
    (∀ i, i < rows.length → ∃ fuel ps', DataW.trod enc Try.prog w base sp held fuel 39 (rows.getD i []) = some (ds.getD i .nil, ps')) → (∀ x ∈ DataW.weightsAll Try.prog 39 ds, x ≤ N) → ∃ l, px l = rows.flatten ∧ l.length = rows.length ∧ PxLe N l
  | [], [], _, _, _ => ⟨[], rfl, rfl, fun p hp => by cases hp⟩
  | [], _ :: _, h, _, _ => by simp at h
  | _ :: _, [], h, _, _ => by simp at h
  | r :: rest, d :: ds, h, hh, hw => by
    rw [DataW.weightsAll] at hw
    obtain ⟨l, h1, h2, h3⟩ := pairs_of rest ds (by simpa using h) (fun i hi => by
      have := hh (i + 1) (by simpa using hi)
      simpa only [List.getD_cons_succ] using this) (fun x hx => hw x (List.mem_append_right _ hx))
    obtain ⟨fuel, ps, h4⟩ := hh 0 (by simp)
    simp only [List.getD_cons_zero] at h4
    obtain ⟨y0, y1, n, hx, hl, g0, g1⟩ := Go.ChangeShapes.trod_struct2 Try.underlying39 h4
    have hc : Try.prog.cellsOf 39 = 2 := by kernel_rfl
    have hcs : Try.prog.cellsOf 9 = 1 := by kernel_rfl
    have hl2 : r.length = 2 := hl.trans hc
    match r, hl2 with
    | [a, b], _ =>
      have g0 := Eq.subst (motive := fun z => DataW.trod enc Try.prog w base sp held n 9 (([a, b].drop 0).take z) = some y0) hcs g0
      have g1 := Eq.subst (motive := fun z => DataW.trod enc Try.prog w base sp held n 9 (([a, b].drop 1).take z) = some y1) hcs g1
      obtain ⟨s, e0, f0, _⟩ := DataW.trod_string Try.underlying9 g0
      obtain ⟨t, e1, f1, _⟩ := DataW.trod_string Try.underlying9 g1
      simp at e0 e1
      subst e0 e1
      injection hx with hx1 _
      have hwt : ∀ x ∈ d.weights Try.prog 39, x ≤ N := fun x hx => hw x (List.mem_append_left _ hx)
      rw [hx1, f0, f1] at hwt
      simp only [DataW.weights, Try.underlying39] at hwt
      simp [DataW.weightsEach, DataW.weights] at hwt
      refine ⟨(s.data.toList, t.data.toList) :: l, ?_, by simpa using h2, fun p hp => ?_⟩
      · unfold px at h1 ⊢
        rw [List.flatMap_cons, h1]
        simp
      · rcases List.mem_cons.1 hp with rfl | hp
        · exact ⟨by simpa using hwt.1, by simpa using hwt.2⟩
        · exact h3 p hp
set_option maxRecDepth 100000 in
/-- An argument that is a list of pairs of texts. -/
theorem open_pairs {H : Type} {enc : TypeId × Value → H} {w : World} {base : Nat} {sp : Nat → Bool} {held : Bool} {r : Reach} {b0 : Nat} {v : Value} {d : DataW H} {ps : List MemPlace}
    (hv : Value.okWide Try.prog w r b0 29 v) (h : DataW.Trod enc Try.prog w base sp held 29 v d ps) :
    ∃ A n c l, v = .slice A n c ∧ Reads w w.heap.size 2 A n (px l) ∧ ∀ N, (∀ x ∈ d.weights Try.prog 29, x ≤ N) → PxLe N l := by
  have hc : Try.prog.cellsOf 39 = 2 := by kernel_rfl
  have hp : 0 < Try.prog.cellsOf 39 := Nat.lt_of_lt_of_eq (Nat.zero_lt_succ 1) hc.symm
  obtain ⟨A, n, c, rows, ds, rfl, h1, h2, h3, h4, h5⟩ := open_rowsW (P := Try.prog) (e := 39) Try.underlying29 hp hv h
  have hx : ∀ N, (∀ x ∈ DataW.weightsAll Try.prog 39 ds, x ≤ N) → ∃ l, px l = rows.flatten ∧ l.length = rows.length ∧ PxLe N l := fun N hN => pairs_of rows ds (by omega) (by rw [h1]; exact h3) hN
  obtain ⟨N0, hN0⟩ : ∃ N0, ∀ x ∈ DataW.weightsAll Try.prog 39 ds, x ≤ N0 := by
    generalize DataW.weightsAll Try.prog 39 ds = L
    induction L with
    | nil => exact ⟨0, fun x hx => by cases hx⟩
    | cons y L ih =>
      obtain ⟨N0, h⟩ := ih
      exact ⟨max y N0, fun x hx => by rcases List.mem_cons.1 hx with rfl | hx; exact Nat.le_max_left _ _; exact Nat.le_trans (h x hx) (Nat.le_max_right _ _)⟩
  obtain ⟨l, g1, g2, g3⟩ := hx N0 hN0
  have h6 : Reads w w.heap.size 2 A n (px l) := by
    rw [g1]
    exact Eq.subst (motive := fun z => Reads w w.heap.size z A n rows.flatten) hc h4
  refine ⟨A, n, c, l, rfl, h6, fun N hN => ?_⟩
  obtain ⟨l', g1', g2', g3'⟩ := hx N (fun x hx => hN x (h5 x hx))
  have : l' = l := px_inj (g1'.trans g1.symm)
  rw [← this]; exact g3'
end Go.Proofs.Ytnmnhnhlggbijaa
