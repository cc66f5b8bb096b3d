/-
  What is read fits into memory: in plain words. No program in sight.
-/
import Derived.Test.YtlfeddgpfaigkaaGreatDoorJsWp
import Derived.Test.YtlfeddgpfaigkaaGreatDoorJsPl
namespace Go.Proofs.YtlfeddgpfaigkaaGreatDoor
namespace Js
theorem flat_ge (s : List UInt8) : s.length ≤ (s.flatMap qc).length := by
  induction s with
  | nil => simp
  | cons c r ih =>
    have h1 : 1 ≤ (qc c).length := by unfold qc; split <;> (try split) <;> simp
    rw [List.flatMap_cons, List.length_append, List.length_cons]
    omega
theorem quoted_le (s : List UInt8) : s.length ≤ (quoted s).length := by
  have := flat_ge s
  unfold quoted
  rw [List.length_cons, List.length_append]
  omega
theorem mem_commas_le : ∀ {l : List (List UInt8)} {x : List UInt8}, x ∈ l → x.length ≤ (commas l).length
  | [y], x, h => by simp at h; subst h; exact Nat.le_refl _
  | y :: z :: r, x, h => by
    rw [commas, List.length_append, List.length_cons]
    rcases List.mem_cons.1 h with h | h
    · subst h; omega
    · have := mem_commas_le (l := z :: r) h
      omega
/-- A head that a form tells is no longer than the form. -/
theorem head_le {d : Nat} {h : Hd} {k : F} (ht : trimH h = h) (hw : wrongs d h k = 0) : h.text.length ≤ (form h k).length ∧ ∀ x ∈ h.keys, x.length ≤ (form h k).length := by
  obtain ⟨e0, _⟩ := wrongs_zero hw
  obtain ⟨_, _, _, hl, _, _⟩ := own_zero e0
  obtain ⟨kd, num, text, keys⟩ := h
  unfold trimH at ht
  simp only at ht hl ⊢
  by_cases h3 : kd = 3
  · rw [if_pos h3] at ht
    injection ht with _ _ h4 h5
    subst h4 h5
    simp
  · rw [if_neg h3] at ht
    by_cases h4 : kd = 4
    · subst h4
      rw [if_pos rfl] at ht
      injection ht with _ _ _ h5
      subst h5
      exact ⟨quoted_le text, by simp⟩
    · rw [if_neg h4] at ht
      by_cases h6 : kd = 6
      · subst h6
        rw [if_pos rfl] at ht
        injection ht with _ _ h5 _
        subst h5
        refine ⟨by simp, fun x hx => ?_⟩
        show x.length ≤ (123 :: (commas ((sortK (keys.zip (forms k))).map member) ++ [125])).length
        have hz : ((keys.zip (forms k)).map Prod.fst) = keys := map_fst_zip _ _ (by rw [forms_len]; exact hl rfl)
        rw [← hz] at hx
        obtain ⟨p, hp, rfl⟩ := List.mem_map.1 hx
        have hm : member p ∈ (sortK (keys.zip (forms k))).map member := List.mem_map.2 ⟨p, (sortK_perm _).mem_iff.2 hp, rfl⟩
        have h1 := mem_commas_le hm
        have h2 := quoted_le p.1
        have h3 : (quoted p.1).length ≤ (member p).length := by simp [member]
        rw [List.length_cons, List.length_append]
        omega
      · rw [if_neg h6] at ht
        injection ht with _ _ h5 h7
        subst h5 h7
        simp
/-- An item's form is no longer than the value's. -/
theorem item_le {h : Hd} {k : F} (h5 : h.kind = 5 ∨ h.kind = 6 ∧ h.keys.length = k.len) {y : List UInt8} (hy : y ∈ forms k) : y.length ≤ (form h k).length := by
  rcases h5 with h5 | ⟨h5, hl⟩
  · have e : form h k = 91 :: (commas (forms k) ++ [93]) := by
      unfold form formH
      rw [h5]
      rfl
    rw [e, List.length_cons, List.length_append]
    have := mem_commas_le hy
    omega
  · have e : form h k = 123 :: (commas ((sortK (h.keys.zip (forms k))).map member) ++ [125]) := by
      unfold form formH
      rw [h5]
      rfl
    obtain ⟨i, hi⟩ := List.getElem?_of_mem hy
    have hlt : i < (forms k).length := by
      rcases Nat.lt_or_ge i (forms k).length with h1 | h1
      · exact h1
      · rw [List.getElem?_eq_none h1] at hi; cases hi
    have hlt2 : i < h.keys.length := by rw [hl, ← forms_len]; exact hlt
    have hp : (h.keys[i], y) ∈ h.keys.zip (forms k) := List.mem_of_getElem? (i := i) (by rw [List.getElem?_zip_eq_some]; exact ⟨List.getElem?_eq_getElem hlt2, hi⟩)
    have hm : member (h.keys[i], y) ∈ (sortK (h.keys.zip (forms k))).map member := List.mem_map.2 ⟨_, (sortK_perm _).mem_iff.2 hp, rfl⟩
    have h1 := mem_commas_le hm
    have h2 : y.length ≤ (member (h.keys[i], y)).length := by simp [member]; omega
    rw [e, List.length_cons, List.length_append]
    omega
theorem all_fit : ∀ (f : F) (d B : Nat), trim f = f → wrongsF d f = 0 → (∀ y ∈ forms f, y.length ≤ B) → B ≤ 4398046511104 → f.All Fit := by
  intro f
  induction f with
  | nil => intros; trivial
  | cons h k r ih1 ih2 =>
    intro d B ht hw hf hB
    rw [trim_cons] at ht
    injection ht with t1 t2 t3
    obtain ⟨w1, w2⟩ := wrongsF_zero hw
    have hh := hf (form h k) (List.mem_cons_self ..)
    obtain ⟨a1, a2⟩ := head_le t1 w1
    refine ⟨⟨by omega, fun x hx => by have := a2 x hx; omega⟩, ?_, ih2 d B t3 w2 (fun y hy => hf y (List.mem_cons_of_mem _ hy)) hB⟩
    obtain ⟨e0, e1⟩ := wrongs_zero w1
    obtain ⟨_, k0, k6, hl, _, _⟩ := own_zero e0
    by_cases h5 : h.kind = 5 ∨ h.kind = 6
    · have h56 : h.kind = 5 ∨ h.kind = 6 ∧ h.keys.length = k.len := h5.imp id fun e => ⟨e, hl e⟩
      unfold trimK at t2
      rw [if_pos h5] at t2
      exact ih1 (d + 1) B t2 (e1 (by omega)) (fun y hy => by have := item_le h56 hy; omega) hB
    · unfold trimK at t2
      rw [if_neg h5] at t2
      rw [← t2]
      trivial
/-- What was read fits. -/
theorem parse_okh {s r : List UInt8} {h : Hd} {k : F} (hx : parse s = .ok h k r) : Okh h ∧ k.All Okh := by
  obtain ⟨h1, h2, h3, q, h4, h5⟩ := parse_ok hx
  obtain ⟨g1, _, g3, g4, g5, g6⟩ := parse_good hx
  obtain ⟨t1, t2⟩ := val_trim h4
  have hall := all_fit (.cons h k .nil) 1 (6 * s.length) (by rw [trim_cons, t1, t2]; rfl) (by rw [wrongsF_cons, g3]; rfl) (fun y hy => by
    have e : y = form h k := by rcases List.mem_cons.1 hy with e | e; exact e; cases e
    subst e; exact g6) (by omega)
  refine ⟨⟨hall.1, g4⟩, All_and hall.2.1 g5⟩
end Js
end Go.Proofs.YtlfeddgpfaigkaaGreatDoor
