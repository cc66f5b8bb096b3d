/-
  Lists of pairs of texts as they lie in memory.
-/
import Derived.Test.YtnmnhnhlggbijaaDoorMem
namespace Go.Proofs.YtnmnhnhlggbijaaDoor
open Go.RowKit
def px (l : List (List UInt8 × List UInt8)) : List Value := l.flatMap fun p => [.string ⟨p.1.toArray⟩, .string ⟨p.2.toArray⟩]
theorem px_append (l m : List (List UInt8 × List UInt8)) : px (l ++ m) = px l ++ px m := by simp [px]
theorem px_get {l : List (List UInt8 × List UInt8)} {k : Nat} (h : k < l.length) : (px l)[k * 2]? = some (.string ⟨(l.getD k ([], [])).1.toArray⟩) ∧ (px l)[k * 2 + 1]? = some (.string ⟨(l.getD k ([], [])).2.toArray⟩) := by
  induction l generalizing k with
  | nil => simp at h
  | cons x l ih =>
    have e : px (x :: l) = .string ⟨x.1.toArray⟩ :: .string ⟨x.2.toArray⟩ :: px l := by simp [px]
    rw [e]
    cases k with
    | zero => simp
    | succ k =>
      have := ih (by simpa using h : k < l.length)
      rw [show (k + 1) * 2 = k * 2 + 2 by omega]
      simpa using this
theorem px_length (l : List (List UInt8 × List UInt8)) : (px l).length = l.length * 2 := by
  induction l with
  | nil => rfl
  | cons x l ih =>
    have e : px (x :: l) = .string ⟨x.1.toArray⟩ :: .string ⟨x.2.toArray⟩ :: px l := by simp [px]
    rw [e, List.length_cons, List.length_cons, ih, List.length_cons]; omega
/-- A pair of a list, where it lies. -/
theorem at_pair {w : World} {B n : Nat} {A : Option Addr} {l : List (List UInt8 × List UInt8)} (h : Reads w B 2 A n (px l)) {k : Nat} (hk : k < n) :
    ∃ ad, A = some ad ∧ ad.block < B ∧ w.cell? (ad.add (k * 2)) = some (.string ⟨(l.getD k ([], [])).1.toArray⟩) ∧ w.cell? ⟨(ad.add (k * 2)).block, (ad.add (k * 2)).off + 1, none⟩ = some (.string ⟨(l.getD k ([], [])).2.toArray⟩) := by
  obtain ⟨ad, hA, hb, hc⟩ := h.2 (by omega)
  have hl : l.length = n := by have := h.1; rw [px_length] at this; omega
  obtain ⟨g1, g2⟩ := px_get (l := l) (k := k) (by omega)
  have e := hc _ _ g2
  rw [← add_of_add] at e
  exact ⟨ad, hA, hb, hc _ _ g1, by rw [← e]; unfold Addr.add; simp⟩
/-- No text of the list is longer than so many bytes. -/
def PxLe (n : Nat) (l : List (List UInt8 × List UInt8)) : Prop := ∀ p ∈ l, p.1.length ≤ n ∧ p.2.length ≤ n
end Go.Proofs.YtnmnhnhlggbijaaDoor
