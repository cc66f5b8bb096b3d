/-
  An argument that is a JSON value, opened with its bulk.
-/
import Derived.Test.YtlfeddgpfaigkaaGreatDoorJsWx
import Derived.Test.YtlfeddgpfaigkaaGreatDoorRowT
import Derived.Test.YtlfeddgpfaigkaaGreatDoorJsCl
namespace Go.Proofs.YtlfeddgpfaigkaaGreatDoor
open Go.ChangeShapes Go.WideShapes Go.ChangeAt Go.RowKit Go.Lib
namespace Js
/-- How much values hold, all told. -/
def F.mass : F → Nat
  | .nil => 0
  | .cons h k r => 1 + h.text.length + (total h.keys + h.keys.length) + k.mass + r.mass
theorem F.sz_mass (f : F) : f.sz ≤ f.mass := by
  induction f with
  | nil => exact Nat.le_refl _
  | cons h k r ih1 ih2 => simp only [F.sz, F.mass]; omega
theorem F.len_mass (f : F) : f.len ≤ f.mass := Nat.le_trans f.len_sz f.sz_mass
theorem F.deep_mass (f : F) : f.deep ≤ f.mass := by
  induction f with
  | nil => exact Nat.le_refl _
  | cons h k r ih1 ih2 => simp only [F.deep, F.mass]; omega
theorem mem_total {x : List UInt8} {l : List (List UInt8)} (h : x ∈ l) : x.length ≤ total l := by
  induction l with
  | nil => cases h
  | cons y r ih =>
    simp only [total, List.map_cons, List.sum_cons]
    rcases List.mem_cons.1 h with h | h
    · subst h; omega
    · have := ih h; simp only [total] at this; omega
theorem F.fit_mass {B : Nat} (hB : B ≤ 4398046511104) : ∀ f : F, f.mass ≤ B → f.All Fit := by
  intro f
  induction f with
  | nil => intro _; trivial
  | cons h k r ih1 ih2 =>
    intro hm
    simp only [F.mass] at hm
    exact ⟨⟨by omega, fun x hx => by have := mem_total hx; omega⟩, ih1 (by omega), ih2 (by omega)⟩
theorem flat_cellsJ {w : World} {a : Addr} {sz : Nat} : ∀ (rows : List (List Value)) (i0 : Nat), (∀ i, i < rows.length → (rows.getD i []).length = sz ∧ ∀ m, m < sz → w.cell? (a.add ((i0 + i) * sz + m)) = (rows.getD i [])[m]?) →
    rows.flatten.length = rows.length * sz ∧ ∀ j u, rows.flatten[j]? = some u → w.cell? (a.add (i0 * sz + j)) = some u
  | [], i0, _ => ⟨by simp, fun j u h => by simp at h⟩
  | r :: rest, i0, h => by
    obtain ⟨h1, h2⟩ := h 0 (by simp)
    obtain ⟨h3, h4⟩   := flat_cellsJ rest (i0 + 1) (fun i hi => by
      have := h (i + 1) (by simpa using hi)
      simp only [List.getD_cons_succ] at this
      rw [show i0 + (i + 1) = i0 + 1 + i by omega] at this
      exact this)
    simp only [List.getD_cons_zero, Nat.add_zero] at h1 h2
    refine ⟨by rw [List.flatten_cons, List.length_append, h3, h1, List.length_cons, Nat.succ_mul]; omega, fun j u hu => ?_⟩
    rw [List.flatten_cons] at hu
    by_cases hj : j < r.length
    · rw [List.getElem?_append_left hj] at hu
      rw [h2 j (by omega)]; exact hu
    · rw [List.getElem?_append_right (by omega)] at hu
      have := h4 (j - r.length) u hu
      rw [show (i0 + 1) * sz + (j - r.length) = i0 * sz + j by rw [Nat.succ_mul]; omega] at this
      exact this
section
variable {H : Type} {enc : TypeId × Value → H} {w : World} {base : Nat} {sp : Nat → Bool} {held : Bool}
theorem bulk_app (a b : List (DataW H)) : Rows.uptoBulkAll (a ++ b) = Rows.uptoBulkAll a + Rows.uptoBulkAll b := by
  induction a with
  | nil => simp [Rows.uptoBulkAll]
  | cons d a ih => rw [List.cons_append, Rows.uptoBulkAll, Rows.uptoBulkAll, ih]; omega
theorem len5 {α : Type} {l : List α} (h : l.length = 5) : ∃ a b c d e, l = [a, b, c, d, e] := by
  match l, h with
  | [a, b, c, d, e], _ => exact ⟨a, b, c, d, e, rfl⟩
theorem agg5 {v a b c d e : Value} (h : v.cells.toList = [a, b, c, d, e]) : v = .agg #[a, b, c, d, e] := by
  cases v with
  | agg cs =>
    have h1 : cs.toList = [a, b, c, d, e] := h
    have h2 : cs = #[a, b, c, d, e] := by rw [← Array.toArray_toList (xs := cs), h1]
    rw [h2]
  | _ => exact absurd (congrArg List.length h) (by simp [Value.cells])
/-- A list of texts, as it is read. -/
theorem texts_of_trod {fuel : Nat} {cs : List Value} {d : DataW H} {ps : List MemPlace} (hf : DataW.trod enc Tryz.prog w base sp held fuel 23 cs = some (d, ps)) :
    ∃ A n c l, cs = [.slice A n c] ∧ Reads w w.heap.size 1 A n (tx l) ∧ total l + l.length ≤ Rows.uptoBulk d ∧ n = l.length ∧ (n = 0 ∧ A = none ∧ c = 0 ∨ A ≠ none) := by
  rcases open_strings Tryz.underlying23 Tryz.underlying9 (by kernel_rfl) hf with ⟨hcs, hx⟩ | ⟨a, len', cap', ss, hcs, _, hl, hm, hz, hx, hcell, hsz⟩
  · exact ⟨none, 0, 0, [], hcs, Reads.none_, by simp [total], rfl, .inl ⟨rfl, rfl, rfl⟩⟩
  · injection hx with hd _
    subst hd
    have hlen : len' ≤ ss.length := by rw [hz]; split <;> omega
    have e1 : ((ss.take len').map fun s => s.data.toList).length = len' := by simp; omega
    refine ⟨some a, len', cap', (ss.take len').map fun s => s.data.toList, hcs, ⟨?_, fun hn => ⟨a, rfl, ?_, ?_⟩⟩, ?_, e1.symm, .inr (by simp)⟩
    · rw [tx_length, e1, Nat.mul_one]
    · have h0 := hcell 0 (by omega)
      rcases Nat.lt_or_ge a.block w.heap.size with h1 | h1
      · exact h1
      · unfold World.cell? at h0
        rw [show (a.add 0).block = a.block from block_of_add a 0, Array.getElem?_eq_none h1] at h0
        cases h0
    · intro j u hu
      have hj : j < len' := by
        have := (List.getElem?_eq_some_iff.1 hu).1
        rw [tx_length, e1] at this; exact this
      have hs : j < ss.length := by omega
      rw [hcell j hs, ← hu]
      simp only [tx, List.map_map, List.getElem?_map, List.getElem?_take, if_pos hj, List.getElem?_eq_getElem hs, Option.map_some, Function.comp, List.getD, Option.getD_some]
    · rw [Rows.uptoBulk, bulk_strs]
      simp only [List.length_map]
      omega
/-- A JSON value's cells: what they are, out of how they read. -/
theorem parts_of_trod {fuel : Nat} {cs : List Value} {d : DataW H} {ps : List MemPlace} (hf : DataW.trod enc Tryz.prog w base sp held (fuel + 1) 25 cs = some (d, ps)) :
    ∃ (kd num : Int) (s : List UInt8) (x3 x4 : List Value) (d3 d4 : DataW H) (p3 p4 : List MemPlace), cs = [.int .i64 kd, .int .i64 num, .string ⟨s.toArray⟩] ++ x3 ++ x4 ∧ -9223372036854775808 ≤ num ∧ num ≤ 9223372036854775807 ∧
      DataW.trod enc Tryz.prog w base sp held fuel 22 x3 = some (d3, p3) ∧ DataW.trod enc Tryz.prog w base sp held fuel 23 x4 = some (d4, p4) ∧ s.length + 1 + Rows.uptoBulk d3 + Rows.uptoBulk d4 ≤ Rows.uptoBulk d ∧ x3 = (cs.drop 3).take 1 ∧ x4 = (cs.drop 4).take 1 := by
  simp only [DataW.trod, Tryz.underlying25] at hf
  split at hf
  · rename_i hlen
    obtain ⟨xs, hm, hx⟩ := Option.map_eq_some_iff.1 hf
    injection hx with hd hps
    subst hd
    have hl := mapM_length hm
    obtain ⟨b0, e0, t0⟩ := mapM_at hm 0 _ rfl
    obtain ⟨b1, e1, t1⟩ := mapM_at hm 1 _ rfl
    obtain ⟨b2, e2, t2⟩ := mapM_at hm 2 _ rfl
    obtain ⟨b3, e3, t3⟩ := mapM_at hm 3 _ rfl
    obtain ⟨b4, e4, t4⟩ := mapM_at hm 4 _ rfl
    have hl5 : xs.length = 5 := by simpa using hl
    obtain ⟨y0, y1, y2, y3, y4, rfl⟩ := len5 hl5
    simp only [List.getElem?_cons_zero, List.getElem?_cons_succ, Option.some.injEq] at e0 e1 e2 e3 e4
    subst e0 e1 e2 e3 e4
    have hc5 : cs.length = 5 := hlen.trans (by kernel_rfl)
    obtain ⟨v0, v1, v2, v3, v4, rfl⟩ := len5 hc5
    clear hlen hc5 hl hl5 hm hf
    · have k3 : Tryz.prog.cellsOf 3 = 1 := by kernel_rfl
      have k2 : Tryz.prog.cellsOf 2 = 1 := by kernel_rfl
      have k9 : Tryz.prog.cellsOf 9 = 1 := by kernel_rfl
      have k22 : Tryz.prog.cellsOf 22 = 1 := by kernel_rfl
      have k23 : Tryz.prog.cellsOf 23 = 1 := by kernel_rfl
      simp only [k3, k2, k9, k22, k23, List.drop_zero, List.drop_succ_cons, List.take_succ_cons, List.take_zero] at t0 t1 t2 t3 t4
      obtain ⟨n0, c0, hx0, _⟩ := DataW.trod_int Tryz.underlying3 t0
      obtain ⟨n1, c1, hx1, hw1⟩ := DataW.trod_int Tryz.underlying2 t1
      obtain ⟨s2, c2, hx2, _⟩ := DataW.trod_string Tryz.underlying9 t2
      injection c0 with c0 _
      injection c1 with c1 _
      injection c2 with c2 _
      subst c0 c1 c2 hx0 hx1 hx2
      have hw : -9223372036854775808 ≤ n1 ∧ n1 ≤ 9223372036854775807 := by
        have h0 : IntKind.i64.min = -9223372036854775808 := rfl
        have h1 : IntKind.i64.max = 9223372036854775807 := rfl
        simp [Lit.wf] at hw1
        omega
      refine ⟨n0, n1, s2.data.toList, [v3], [v4], y3.1, y4.1, y3.2, y4.2, by simp, hw.1, hw.2, t3, t4, ?_, rfl, rfl⟩
      simp only [List.map_cons, List.map_nil, Rows.uptoBulk, Rows.uptoBulkAll]
      omega
  · cases hf
/-- The rows of a list of values. -/
theorem rows_of_trod {fuel : Nat} {cs : List Value} {d : DataW H} {ps : List MemPlace} (hf : DataW.trod enc Tryz.prog w base sp held fuel 22 cs = some (d, ps)) :
    ∃ (A : Option Addr) (n c g : Nat) (rows : List (List Value)) (ds : List (DataW H)), cs = [.slice A n c] ∧ rows.length = n ∧ ds.length = n ∧ (0 < n → fuel = g + 1) ∧ (∀ i, i < n → ∃ ps', DataW.trod enc Tryz.prog w base sp held g 25 (rows.getD i []) = some (ds.getD i .nil, ps')) ∧ Reads w w.heap.size 5 A n rows.flatten ∧ Rows.uptoBulkAll ds + 1 ≤ Rows.uptoBulk d := by
  have k5 : Tryz.prog.cellsOf 25 = 5 := by kernel_rfl
  rcases DataW.trod_slice Tryz.underlying22 hf with ⟨hcs, hx⟩ | ⟨a, len, cap, elems, rest, n, hfu, hcs, hx, hb, hl, hm, hlen, hel, _, _⟩
  · injection hx with hd _
    subst hd
    exact ⟨none, 0, 0, 0, [], [], hcs, rfl, rfl, fun h => absurd h (by omega), fun i hi => by omega, ⟨by simp, fun hn => by omega⟩, by simp [Rows.uptoBulkAll, Rows.uptoBulk]⟩
  · injection hx with hd _
    subst hd
    rw [k5] at hel
    have hrow : ∀ i, i < len → ∃ cs y, w.cells? base (a.add (i * 5)) 5 = some cs ∧ elems[i]? = some y ∧ DataW.trod enc Tryz.prog w base sp held n 25 cs = some y := by
      intro i hi
      have h1 := hel i hi
      have h2 : elems[i]? = some (elems[i]'(by omega)) := List.getElem?_eq_getElem (by omega)
      rw [h2, Option.bind_eq_some_iff] at h1
      obtain ⟨cs, h3, h4⟩ := h1
      exact ⟨cs, _, h3, h2, h4⟩
    let f : Nat → List Value := fun i => (w.cells? base (a.add (i * 5)) 5).getD []
    have hget : ∀ i, i < len → ((List.range len).map f).getD i [] = f i := fun i hi => by simp [List.getD, hi]
    have hcell : ∀ i, i < len → ((List.range len).map f).getD i [] = f i ∧ (f i).length = 5 ∧ ∀ m, m < 5 → w.cell? (a.add (i * 5 + m)) = (f i)[m]? := fun i hi => by
      obtain ⟨cs, y, h3, _, _⟩ := hrow i hi
      obtain ⟨_, h5, h6⟩ := World.cells?_some h3
      have hfi : f i = cs := by simp [f, h3]
      refine ⟨hget i hi, by rw [hfi]; exact h5, fun m hm => ?_⟩
      rw [hfi, ← h6 m hm, add_of_add]
    obtain ⟨h7, h8⟩ := flat_cellsJ (w := w) (a := a) (sz := 5) ((List.range len).map f) 0 (fun i hi => by
      have hi' : i < len := by simpa using hi
      obtain ⟨e1, e2, e3⟩ := hcell i hi'
      rw [e1]
      refine ⟨e2, fun m hm => ?_⟩
      rw [Nat.zero_add]; exact e3 m hm)
    refine ⟨some a, len, cap, n, (List.range len).map f, elems.map (·.1), hcs, by simp, by simpa using hlen, fun _ => hfu, fun i hi => ?_, ⟨by simpa using h7, fun hn => ⟨a, rfl, ?_, fun j u hu => ?_⟩⟩, ?_⟩
    · obtain ⟨cs, y, h3, h4, h5⟩ := hrow i hi
      refine ⟨y.2, ?_⟩
      have hfi : f i = cs := by simp [f, h3]
      rw [hget i hi, hfi, h5]
      simp [List.getD, List.getElem?_map, h4]
    · obtain ⟨e1, e2, e3⟩ := hcell 0 (by omega)
      have h0 := e3 0 (by decide)
      rcases Nat.lt_or_ge a.block w.heap.size with h1 | h1
      · exact h1
      · unfold World.cell? at h0
        rw [block_of_add, Array.getElem?_eq_none h1] at h0
        match hf0 : f 0, e2 with
        | y :: r, _ => rw [hf0] at h0; simp at h0
    · have := h8 j u hu
      simpa using this
    · simp only [Rows.uptoBulk]
      omega
theorem rows_tree (g : Nat) (IH : ∀ (cs : List Value) (d : DataW H) (ps : List MemPlace), DataW.trod enc Tryz.prog w base sp held g 25 cs = some (d, ps) → Rows.uptoBulk d ≤ 1048576 →
      ∃ h k iv kv, cs = jcells h iv kv ∧ TV encJ w (· < w.heap.size) h k (jcells h iv kv) ∧ NumOk h ∧ k.All NumOk ∧ (F.cons h k .nil).mass ≤ Rows.uptoBulk d) :
    ∀ (rows : List (List Value)) (ds : List (DataW H)), rows.length = ds.length → (∀ i, i < rows.length → ∃ ps', DataW.trod enc Tryz.prog w base sp held g 25 (rows.getD i []) = some (ds.getD i .nil, ps')) → Rows.uptoBulkAll ds ≤ 1048576 →
      ∃ k : F, k.len = rows.length ∧ TR encJ w (· < w.heap.size) k rows.flatten ∧ k.All NumOk ∧ k.mass ≤ Rows.uptoBulkAll ds
  | [], ds, _, _, _ => ⟨.nil, rfl, rfl, trivial, Nat.zero_le _⟩
  | r :: rows, [], hl, _, _ => by cases hl
  | r :: rows, d :: ds, hl, hr, hb => by
    simp only [Rows.uptoBulkAll] at hb ⊢
    obtain ⟨ps', h0⟩ := hr 0 (by simp)
    simp only [List.getD_cons_zero] at h0
    obtain ⟨h, k, iv, kv, rfl, htv, hn, hk, hm⟩ := IH r d ps' h0 (by omega)
    obtain ⟨k2, e1, e2, e3, e4⟩ := rows_tree g IH rows ds (by simpa using hl) (fun i hi => by
      obtain ⟨q, hq⟩ := hr (i + 1) (by simpa using hi)
      simp only [List.getD_cons_succ] at hq
      exact ⟨q, hq⟩) (by omega)
    refine ⟨.cons h k k2, by simp [F.len, e1], ?_, ⟨hn, hk, e3⟩, ?_⟩
    · rw [List.flatten_cons]
      exact htv.tr.app e2
    · simp only [F.mass] at hm ⊢
      omega
/-- A JSON value's cells, opened. -/
theorem open_json (fuel : Nat) : ∀ (cs : List Value) (d : DataW H) (ps : List MemPlace), DataW.trod enc Tryz.prog w base sp held fuel 25 cs = some (d, ps) → Rows.uptoBulk d ≤ 1048576 →
      ∃ h k iv kv, cs = jcells h iv kv ∧ TV encJ w (· < w.heap.size) h k (jcells h iv kv) ∧ NumOk h ∧ k.All NumOk ∧ (F.cons h k .nil).mass ≤ Rows.uptoBulk d := by
  induction fuel using Nat.strongRecOn with
  | ind fuel ih =>
    intro cs d ps hf hb
    cases fuel with
    | zero => simp [DataW.trod] at hf
    | succ f =>
      obtain ⟨kd, num, s, x3, x4, d3, d4, p3, p4, hcs, n1, n2, t3, t4, hbk, e3, e4⟩ := parts_of_trod hf
      obtain ⟨A, n, c, g, rows, ds, rfl, hl1, hl2, hfu, hrow, hrd, hbd⟩ := rows_of_trod t3
      obtain ⟨A', n', c', l, rfl, hrk, hbl, hnl, _⟩ := texts_of_trod t4
      subst hnl
      have hgf : 0 < n → g < f + 1 := fun h => by have := hfu h; omega
      obtain ⟨k, e1, e2, e3', e4'⟩ : ∃ k : F, k.len = n ∧ TR encJ w (· < w.heap.size) k rows.flatten ∧ k.All NumOk ∧ k.mass ≤ Rows.uptoBulkAll ds := by
        rcases Nat.eq_zero_or_pos n with h0 | h0
        · have hr0 : rows = [] := List.eq_nil_of_length_eq_zero (by omega)
          subst hr0
          exact ⟨.nil, h0.symm, rfl, trivial, Nat.zero_le _⟩
        · obtain ⟨k, q1, q2, q3, q4⟩ := rows_tree g (fun cs d ps h1 h2 => ih g (hgf h0) cs d ps h1 h2) rows ds (by omega) (fun i hi => hrow i (by omega)) (by omega)
          exact ⟨k, by omega, q2, q3, q4⟩
      subst e1
      have hkm := k.len_mass
      refine ⟨⟨kd, num, s, l⟩, k, .slice A k.len c, .slice A' l.length c', hcs, ⟨A, c, A', c', rows.flatten, rfl, by omega, ⟨by show l.length ≤ _; omega, fun h => by cases h⟩, RdS.of_reads hrd, e2, RdS.of_reads hrk⟩, ⟨n1, n2⟩, e3', ?_⟩
      simp only [F.mass]
      omega
end
end Js
end Go.Proofs.YtlfeddgpfaigkaaGreatDoor
