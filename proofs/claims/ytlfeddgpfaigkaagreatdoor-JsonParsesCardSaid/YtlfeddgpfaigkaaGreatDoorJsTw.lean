/-
  The walk of the document's twice: is a text there twice?
-/
import Derived.Test.YtlfeddgpfaigkaaGreatDoorJsQu
import Derived.Test.YtlfeddgpfaigkaaGreatDoorSmt
import Derived.Test.YtlfeddgpfaigkaaGreatDoorJsWp
namespace Go.Proofs.YtlfeddgpfaigkaaGreatDoor
open Go.RowKit
namespace Js
/-- No text twice: none stands behind itself. -/
theorem dupL_get : ∀ (l : List (List UInt8)), dupL l = true ↔ ∃ i k, k < i ∧ i < l.length ∧ l.getD i [] = l.getD k []
  | [] => by simp [dupL]
  | x :: r => by
    unfold dupL
    rw [Bool.or_eq_true, dupL_get r, decide_eq_true_iff]
    constructor
    · rintro (h | ⟨i, k, h1, h2, h3⟩)
      · obtain ⟨i, hi, e⟩ := List.getElem_of_mem h
        exact ⟨i + 1, 0, by omega, by rw [List.length_cons]; omega, by simp [List.getD, hi, e]⟩
      · exact ⟨i + 1, k + 1, by omega, by rw [List.length_cons]; omega, by simpa [List.getD] using h3⟩
    · rintro ⟨i, k, h1, h2, h3⟩
      rw [List.length_cons] at h2
      obtain ⟨i, rfl⟩ : ∃ j, i = j + 1 := ⟨i - 1, by omega⟩
      cases k with
      | zero =>
        left
        have hi : i < r.length := by omega
        have : r[i] = x := by simpa [List.getD, hi] using h3
        rw [← this]
        exact List.getElem_mem hi
      | succ k => exact .inr ⟨i, k, by omega, by omega, by simpa [List.getD] using h3⟩
set_option maxHeartbeats 1600000 in
set_option maxRecDepth 100000 in
theorem twice_any (l : List (List UInt8)) (A : Option Addr) (n c : Nat) (w : World) (hr : Reads w w.heap.size 1 A n (tx l)) (hn : n ≤ 140737488355328) :
    Calls Tryz.prog 134 #[.slice A n c] w fun x w' => x = .returned (.bool (dupL l)) ∧ Below w.heap.size w w' := by
  have hl : l.length = n := by have := hr.1; rw [tx_length] at this; omega
  have HL := Lib.hid hl
  have HR := Lib.hid hr
  clear hl hr
  go_enter Tryz.func134, Tryz.ntmps134
  go_wp2_with fail
  go_loopw [3] (fun i wr => ∃ j : Nat, j ≤ n ∧ i = .int .i64 j ∧ Hid (∀ a b, b < a → a < j → l.getD a [] ≠ l.getD b []) ∧ Hid (Below w.heap.size w wr)) (fun i _ => n - (intOf i).toNat)
  case atStart => exact ⟨0, by omega, rfl, Lib.hid (fun a b _ h => absurd h (by omega)), Lib.hid (Below.refl _ _)⟩
  case round =>
    obtain ⟨j, hj, rfl, HN, HW⟩ := hrel
    obtain ⟨w1, hw1⟩ : ∃ w1, w1 = wr := ⟨_, rfl⟩
    subst hw1
    by_cases hlt : j < n
    · go_wp2_with fail
      go_loopw [4] (fun i wr => ∃ k : Nat, k ≤ j ∧ i = .int .i64 k ∧ Hid (∀ b, b < k → l.getD j [] ≠ l.getD b []) ∧ Hid (Below w.heap.size w wr)) (fun i _ => j - (intOf i).toNat)
      case atStart => exact ⟨0, by omega, rfl, Lib.hid (fun b h => absurd h (by omega)), HW⟩
      case round =>
        clear HW
        obtain ⟨k, hk, rfl, HM, HW⟩ := hrel
        by_cases hkj : k < j
        · obtain ⟨ad, u, rfl, _, hu, hc⟩ := (HR.out.below HW.out).at_ hlt
          obtain ⟨ad', u', hadd, _, hu', hc'⟩ := (HR.out.below HW.out).at_ (show k < n by omega)
          cases hadd
          obtain rfl := tx_get hu (by have := HL.out; omega)
          obtain rfl := tx_get hu' (by have := HL.out; omega)
          have HX : Hid (l.getD j [] = l.getD k [] → dupL l = true) := Lib.hid (fun h => (dupL_get l).2 ⟨j, k, hkj, by have := HL.out; omega, h⟩)
          have HY : Hid (l.getD j [] ≠ l.getD k [] → ∀ b, b < k + 1 → l.getD j [] ≠ l.getD b []) := Lib.hid (fun h b hb => by
            rcases Nat.lt_or_ge b k with h1 | h1
            · exact HM.out b h1
            · obtain rfl : b = k := by omega
              exact h)
          clear hu hu'
          obtain ⟨p, hp⟩ : ∃ p, p = l.getD j [] := ⟨_, rfl⟩
          obtain ⟨q, hq⟩ : ∃ q, q = l.getD k [] := ⟨_, rfl⟩
          rw [← hp] at hc
          rw [← hq] at hc'
          have HPQ := Lib.hid (And.intro hp hq)
          clear hp hq
          have c1 := fun wx => eq_texts p q wx
          by_cases hpq : p = q
          · rw [decide_eq_true hpq] at c1
            have H1 := Lib.hid (HX.out (by rw [← HPQ.out.1, ← HPQ.out.2]; exact hpq))
            go_wp2_with fail
            go_quiet (fail)
            have HW1 := Lib.hid (below_drewN HW.out nq)
            try rw [show (p == q) = true by simp [hpq]]
            go_wp2
            go_ret
            exact ⟨by rw [H1.out]; rfl, HW1.out⟩
          · rw [decide_eq_false hpq] at c1
            have H1 := Lib.hid (HY.out (by rw [← HPQ.out.1, ← HPQ.out.2]; exact hpq))
            go_wp2_with fail
            go_quiet (fail)
            have HW1 := Lib.hid (below_drewN HW.out nq)
            try rw [show (p == q) = false by simp [hpq]]
            go_wp2
            go_roundw
            case rel => exact ⟨k + 1, by omega, by go_num, H1, HW1⟩
            case measure => simp [intOf]; omega
        · obtain rfl : k = j := by omega
          have H1 : Hid (∀ a b, b < a → a < k + 1 → l.getD a [] ≠ l.getD b []) := Lib.hid (fun a b h1 h2 => by
            rcases Nat.lt_or_ge a k with h | h
            · exact HN.out a b h1 h
            · obtain rfl : a = k := by omega
              exact HM.out b h1)
          go_wp2_with fail
          go_roundw
          case rel => exact ⟨k + 1, by omega, by go_num, H1, HW⟩
          case measure => simp [intOf]; omega
    · have HD : Hid (dupL l = false) := Lib.hid (by
        cases e : dupL l
        · rfl
        · obtain ⟨i, k, h1, h2, h3⟩ := (dupL_get l).1 e
          exact absurd h3 (HN.out i k h1 (by have := HL.out; omega)))
      go_wp2_with fail
      go_ret
      exact ⟨by rw [HD.out]; rfl, HW.out⟩
end Js
end Go.Proofs.YtlfeddgpfaigkaaGreatDoor
