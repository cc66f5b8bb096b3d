/-
  Plain laws about reading a text: it always comes to something; one step of it; where a text is looked at from a place on. No program in sight.
-/
import Derived.Test.YtnmnhnhlggbijaaDoorExpL
namespace Go.Proofs.YtnmnhnhlggbijaaDoor
namespace Exp
open T

/-- What stands behind is no longer than this. -/
def Cls.Le (n : Nat) : Cls → Prop
  | .fin _ => True
  | .lit _ r => r.length ≤ n
  | .quo r => r.length ≤ n
  | .var _ _ r => r.length ≤ n
theorem Cls.Le.more {n m : Nat} {c : Cls} (h : c.Le n) (hm : n ≤ m) : c.Le m := by
  cases c <;> first | trivial | exact Nat.le_trans h hm
theorem clsEnd_le (n s : List UInt8) : (clsEnd n s).Le s.length := by
  cases s with
  | nil => trivial
  | cons c r =>
    simp only [clsEnd]
    split
    · show r.length ≤ _; simp
    · split
      · cases r with
        | nil => trivial
        | cons o r' => simp only; split; (show r'.length ≤ _; simp; omega); trivial
      · trivial
theorem clsVar_le (s : List UInt8) : (clsVar s).Le s.length := by
  unfold clsVar
  split
  · show (s.drop _).length ≤ _; simp
  · cases s with
    | nil => show 0 ≤ 0; omega
    | cons c q =>
      simp only
      split
      · unfold clsBr
        split
        · trivial
        · exact (clsEnd_le _ _).more (by simp; omega)
      · show (c :: q).length ≤ _; omega
theorem clsC_le (e : UInt8) (k : K) (c : UInt8) (r : List UInt8) : (clsC e k c r).Le r.length := by
  unfold clsC
  split
  · cases r with
    | nil => show 0 ≤ 0; omega
    | cons d r' => simp only; split; (show r'.length ≤ _; simp); (show (d :: r').length ≤ _; omega)
  · split
    · exact clsVar_le r
    · split
      · trivial
      · split
        · show r.length ≤ _; omega
        · split
          · show r.length ≤ _; omega
          · unfold clsQ
            split
            · trivial
            · show (r.drop _).length ≤ _; simp
theorem cls_lt {e : UInt8} {k : K} {s : List UInt8} (h : ∀ o, cls e k s ≠ .fin o) : (cls e k s).Le (s.length - 1) := by
  cases s with
  | nil => exact absurd rfl (h _)
  | cons c r => exact (clsC_le e k c r).more (by simp)
/-- Reading always comes to something. -/
theorem Rd.total (e : UInt8) : ∀ (n : Nat) (k : K) (s : List UInt8), s.length ≤ n → ∃ o, Rd e k s o ∧ ∀ t r, o = .ok t r → r.length ≤ s.length
  | 0, k, s, h => by
    obtain rfl : s = [] := List.eq_nil_of_length_eq_zero (by omega)
    exact ⟨ends k, .fin rfl, by intro t r ht; cases k <;> cases ht <;> simp⟩
  | n + 1, k, s, h => by
    have key : ∀ o, Rd e k s o → ∀ t r, o = .ok t r → r.length ≤ s.length := by
      intro o ho t r ht
      obtain ⟨x, hx⟩ := ho.suf t r ht
      rw [hx]; simp
    have hl := cls_lt (e := e) (k := k) (s := s)
    cases hc : cls e k s with
    | fin o => exact ⟨o, .fin hc, key _ (.fin hc)⟩
    | lit p r =>
      have hs : s ≠ [] := cls_ne (by intro o; rw [hc]; simp)
      have := hl (by intro o; rw [hc]; simp)
      rw [hc] at this
      have hsl := List.length_pos_iff.2 hs
      obtain ⟨o, ho, _⟩ := Rd.total e n k r (by have : r.length ≤ s.length - 1 := this; omega)
      exact ⟨_, .lit hc ho, key _ (.lit hc ho)⟩
    | quo r =>
      have hs : s ≠ [] := cls_ne (by intro o; rw [hc]; simp)
      have := hl (by intro o; rw [hc]; simp)
      rw [hc] at this
      have hsl := List.length_pos_iff.2 hs
      have hr : r.length ≤ s.length - 1 := this
      obtain ⟨o, ho, h1⟩ := Rd.total e n .quoted r (by omega)
      cases o with
      | err no => exact ⟨_, .quoE hc ho, key _ (.quoE hc ho)⟩
      | ok t r' =>
        obtain ⟨o2, ho2, _⟩ := Rd.total e n k r' (by have := h1 t r' rfl; omega)
        exact ⟨_, .quo hc ho ho2, key _ (.quo hc ho ho2)⟩
    | var m q r =>
      have hs : s ≠ [] := cls_ne (by intro o; rw [hc]; simp)
      have := hl (by intro o; rw [hc]; simp)
      rw [hc] at this
      have hsl := List.length_pos_iff.2 hs
      have hr : r.length ≤ s.length - 1 := this
      obtain ⟨o, ho, h1⟩ := Rd.total e n .braces r (by omega)
      cases o with
      | err no => exact ⟨_, .varE hc ho, key _ (.varE hc ho)⟩
      | ok t r' =>
        obtain ⟨o2, ho2, _⟩ := Rd.total e n k r' (by have := h1 t r' rfl; omega)
        exact ⟨_, .var hc ho ho2, key _ (.var hc ho ho2)⟩
theorem Rd.is (e : UInt8) (k : K) (s : List UInt8) : ∃ o, Rd e k s o := by
  obtain ⟨o, ho, _⟩ := Rd.total e s.length k s (Nat.le_refl _)
  exact ⟨o, ho⟩
section
variable {e : UInt8} {k : K} {s r n : List UInt8} {o o' : Out} {p : T} {q : UInt8}
theorem Rd.at_fin (h : Rd e k s o) (hc : cls e k s = .fin o') : o = o' := h.det (.fin hc)
theorem Rd.at_lit (h : Rd e k s o) (hc : cls e k s = .lit p r) : ∃ o', Rd e k r o' ∧ o = o'.pre p := by
  obtain ⟨o', ho'⟩ := Rd.is e k r
  exact ⟨o', ho', h.det (.lit hc ho')⟩
theorem Rd.at_quo (h : Rd e k s o) (hc : cls e k s = .quo r) : (∃ t r' o', Rd e .quoted r (.ok t r') ∧ Rd e k r' o' ∧ o = o'.pre t) ∨ ∃ no, Rd e .quoted r (.err no) ∧ o = .err no := by
  obtain ⟨o', ho'⟩ := Rd.is e .quoted r
  cases o' with
  | err no => exact .inr ⟨no, ho', h.det (.quoE hc ho')⟩
  | ok t r' =>
    obtain ⟨o2, ho2⟩ := Rd.is e k r'
    exact .inl ⟨t, r', o2, ho', ho2, h.det (.quo hc ho' ho2)⟩
theorem Rd.at_var (h : Rd e k s o) (hc : cls e k s = .var n q r) : (∃ t r' o', Rd e .braces r (.ok t r') ∧ Rd e k r' o' ∧ o = o'.pre (.var n q t .nil)) ∨ ∃ no, Rd e .braces r (.err no) ∧ o = .err no := by
  obtain ⟨o', ho'⟩ := Rd.is e .braces r
  cases o' with
  | err no => exact .inr ⟨no, ho', h.det (.varE hc ho')⟩
  | ok t r' =>
    obtain ⟨o2, ho2⟩ := Rd.is e k r'
    exact .inl ⟨t, r', o2, ho', ho2, h.det (.var hc ho' ho2)⟩
end
/-- A text from a place on. -/
theorem drop_at {s : List UInt8} {p : Nat} (h : p < s.length) : s.drop p = s.getD p 0 :: s.drop (p + 1) := by
  rw [List.drop_eq_getElem_cons h]
  simp [List.getD, List.getElem?_eq_getElem h]
/-- So many bytes from a place on. -/
def cut (s : List UInt8) (i j : Nat) : List UInt8 := (s.drop i).take (j - i)
theorem cut_snoc {s : List UInt8} {i j : Nat} (hi : i ≤ j) (hj : j < s.length) : cut s i (j + 1) = cut s i j ++ [s.getD j 0] := by
  unfold cut
  rw [show j + 1 - i = (j - i) + 1 by omega, List.take_succ_eq_append_getElem (by simp; omega)]
  congr 1
  simp [List.getElem_drop, List.getD, show i + (j - i) = j by omega, List.getElem?_eq_getElem hj]
theorem cut_nil (s : List UInt8) (i : Nat) : cut s i i = [] := by simp [cut]
theorem cut_len {s : List UInt8} {i j : Nat} (hi : i ≤ j) (hj : j ≤ s.length) : (cut s i j).length = j - i := by simp [cut]; omega
theorem cut_one {s : List UInt8} {j : Nat} (hj : j < s.length) : cut s j (j + 1) = [s.getD j 0] := by rw [cut_snoc (Nat.le_refl _) hj, cut_nil]; rfl
theorem lits_nil (t : T) : lits [] t = t := rfl
end Exp
end Go.Proofs.YtnmnhnhlggbijaaDoor
