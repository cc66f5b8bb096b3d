/-
  For DigestHashes's row: a script opened.
-/
import Derived.Test.YtgjelinnpcekmaaDoorRowE
import Derived.Test.YtgjelinnpcekmaaDoorOpn
import Derived.Test.YtgjelinnpcekmaaDoorDigH
namespace Go.Proofs.YtgjelinnpcekmaaDoor
open Go.ChangeShapes Go.WideShapes Go.ChangeAt Go.RowKit Err Plain Sha

set_option maxRecDepth 100000 in
theorem acts_of {H : Type} {enc : TypeId × Value → H} {w : World} {base : Nat} {sp : Nat → Bool} {held : Bool} : ∀ (rows : List (List Value)) (ds : List (DataW H)), rows.length = ds.length →
    (∀ i, i < rows.length → ∃ fuel ps', DataW.trod enc Tryd.prog w base sp held fuel 44 (rows.getD i []) = some (ds.getD i .nil, ps')) → ∃ l, acts l = rows.flatten ∧ l.length = rows.length ∧ ∀ p ∈ l, p.1.length ≤ Rows.uptoBulkAll ds
  | [], [], _, _ => ⟨[], rfl, rfl, fun p hp => by cases hp⟩
  | [], _ :: _, h, _ => by simp at h
  | _ :: _, [], h, _ => by simp at h
  | r :: rest, d :: ds, h, hh => by
    obtain ⟨l, h1, h2, h3⟩ := acts_of rest ds (by simpa using h) (fun i hi => by
      have := hh (i + 1) (by simpa using hi)
      simpa only [List.getD_cons_succ] using this)
    obtain ⟨fuel, ps, h4⟩ := hh 0 (by simp)
    simp only [List.getD_cons_zero] at h4
    obtain ⟨y0, y1, y2, n, hx, hl, g0, g1, g2⟩ := Go.Deep.trod_struct3 Tryd.underlying44 h4
    have hc : Tryd.prog.cellsOf 44 = 3 := by kernel_rfl
    have hcs : Tryd.prog.cellsOf 9 = 1 := by kernel_rfl
    have hcb : Tryd.prog.cellsOf 4 = 1 := by kernel_rfl
    have hl3 : r.length = 3 := hl.trans hc
    match r, hl3 with
    | [a, b, c], _ =>
      have g0 := Eq.subst (motive := fun z => DataW.trod enc Tryd.prog w base sp held n 9 (([a, b, c].drop 0).take z) = some y0) hcs g0
      have g1 := Eq.subst (motive := fun z => DataW.trod enc Tryd.prog w base sp held n 4 (([a, b, c].drop 1).take z) = some y1) hcb g1
      have g2 := Eq.subst (motive := fun z => DataW.trod enc Tryd.prog w base sp held n 4 (([a, b, c].drop 2).take z) = some y2) hcb g2
      obtain ⟨s, e0, f0, _⟩ := DataW.trod_string Tryd.underlying9 g0
      obtain ⟨b1, e1, f1⟩ := DataW.trod_bool Tryd.underlying4 g1
      obtain ⟨b2, e2, f2⟩ := DataW.trod_bool Tryd.underlying4 g2
      simp at e0 e1 e2
      subst e0 e1 e2
      injection hx with hx1 _
      refine ⟨(s.data.toList, b1, b2) :: l, ?_, by simpa using h2, fun p hp => ?_⟩
      · unfold acts at h1 ⊢
        rw [List.flatMap_cons, h1]
        simp
      · rw [Rows.uptoBulkAll]
        rcases List.mem_cons.1 hp with rfl | hp
        · rw [hx1, f0, f1, f2]
          simp only [Rows.uptoBulk, Rows.uptoBulkAll]
          omega
        · have := h3 p hp
          omega
theorem bulk_len {H : Type} (ds : List (DataW H)) : ds.length ≤ Rows.uptoBulkAll ds := by
  induction ds with
  | nil => simp
  | cons d ds ih =>
    rw [Rows.uptoBulkAll, List.length_cons]
    have : 1 ≤ Rows.uptoBulk d := by
      cases d with
      | lit x => cases x <;> simp [Rows.uptoBulk]
      | _ => simp [Rows.uptoBulk]
    omega
set_option maxRecDepth 100000 in
theorem open_acts {H : Type} {enc : TypeId × Value → H} {w : World} {base : Nat} {sp : Nat → Bool} {held : Bool} {r : Reach} {b0 : Nat} {v : Value} {d : DataW H} {ps : List MemPlace}
    (hv : Value.okWide Tryd.prog w r b0 37 v) (h : DataW.Trod enc Tryd.prog w base sp held 37 v d ps) :
    ∃ A n c l, v = .slice A n c ∧ Reads w w.heap.size 3 A n (acts l) ∧ n ≤ Rows.uptoBulk d ∧ ∀ p ∈ l, p.1.length ≤ Rows.uptoBulk d := by
  have hc : Tryd.prog.cellsOf 44 = 3 := by kernel_rfl
  have hp : 0 < Tryd.prog.cellsOf 44 := Nat.lt_of_lt_of_eq (Nat.zero_lt_succ 2) hc.symm
  obtain ⟨A, n, c, rows, ds, rfl, h1, h2, h3, h4, h5⟩ := open_rows (P := Tryd.prog) (e := 44) Tryd.underlying37 hp hv h
  obtain ⟨l, g1, g2, g3⟩ := acts_of rows ds (by omega) (by rw [h1]; exact h3)
  have h6 : Reads w w.heap.size 3 A n (acts l) := by
    rw [g1]
    exact Eq.subst (motive := fun z => Reads w w.heap.size z A n rows.flatten) hc h4
  exact ⟨A, n, c, l, rfl, h6, by have := bulk_len ds; omega, fun p hp => Nat.le_trans (g3 p hp) h5⟩
end Go.Proofs.YtgjelinnpcekmaaDoor
