/-
  The walks of few, CopyTexts and SameTexts at this seat's translation: lists of texts counted, copied, compared.
-/
import Derived.Test.YtgjelinnpcekmaaDoorMem
import Derived.Test.YtgjelinnpcekmaaDoorKit
import Derived.Test.YtgjelinnpcekmaaDoorProg
import Derived.BigQuiet
import Derived.Deep.QuietTactic
namespace Go.Proofs.YtgjelinnpcekmaaDoor
open Go.RowKit

/-- A list of texts, as cells. -/
def tx (l : List (List UInt8)) : List Value := l.map fun p => .string ⟨p.toArray⟩
theorem tx_length (l : List (List UInt8)) : (tx l).length = l.length := by simp [tx]
theorem tx_append (l m : List (List UInt8)) : tx (l ++ m) = tx l ++ tx m := by simp [tx]
theorem tx_get {l : List (List UInt8)} {k : Nat} {u : Value} (h : (tx l)[k]? = some u) (hk : k < l.length) : u = .string ⟨(l.getD k []).toArray⟩ := by
  simp only [tx, List.getElem?_map, List.getElem?_eq_getElem hk, Option.map_some, Option.some.injEq] at h
  rw [← h]; simp [List.getD, List.getElem?_eq_getElem hk]
def total (l : List (List UInt8)) : Nat := (l.map List.length).sum
theorem total_append (l m : List (List UInt8)) : total (l ++ m) = total l + total m := by simp [total]
theorem total_take_succ (l : List (List UInt8)) (k : Nat) (h : k < l.length) : total (l.take (k + 1)) = total (l.take k) + (l.getD k []).length := by
  rw [List.take_succ_eq_append_getElem h, total_append]
  simp [total, List.getD, List.getElem?_eq_getElem h]
theorem total_take_le (l : List (List UInt8)) (k : Nat) : total (l.take k) ≤ total l := by
  have h := total_append (l.take k) (l.drop k)
  rw [List.take_append_drop] at h
  omega

set_option maxHeartbeats 400000 in
/-- few: at most 2^20 bytes? -/
theorem few_any (A : Option Addr) (n c B : Nat) (l : List (List UInt8)) (w : World) (hr : Reads w B 1 A n (tx l)) (hn : n ≤ 140737488355328) (hs : ∀ p ∈ l, p.length ≤ 140737488355328) :
    Calls Tryd.prog 13 #[.slice A n c] w fun e w' => e = .returned (.bool (decide (total l ≤ 1048576))) ∧ w = w' := by
  have hl : l.length = n := by have := hr.1; rw [tx_length] at this; omega
  have HL := Lib.hid hl
  have HR := Lib.hid hr
  clear hl hr
  go_enter Tryd.func13, Tryd.ntmps13
  go_wp2
  go_loop [3, 4] (fun a i => ∃ k t : Nat, k ≤ n ∧ i = .int .i64 k ∧ a = .int .i64 t ∧ t ≤ 1048576 ∧ Hid (t = total (l.take k))) (fun _ i => n - (intOf i).toNat)
  case atStart => exact ⟨0, 0, by omega, rfl, rfl, by omega, Lib.hid rfl⟩
  case round =>
    obtain ⟨k, t, hk, rfl, rfl, ht, HT⟩ := hrel
    by_cases hlt : k < n
    · obtain ⟨ad, u, rfl, _, hu, hc⟩ := HR.out.at_ hlt
      obtain rfl := tx_get hu (by have := HL.out; omega)
      have hp : (l.getD k []).length ≤ 140737488355328 := hs _ (by
        have := HL.out
        simp only [List.getD, List.getElem?_eq_getElem (show k < l.length by omega), Option.getD_some]; exact List.getElem_mem _)
      have HX : Hid (total (l.take (k + 1)) = total (l.take k) + (l.getD k []).length) := Lib.hid (total_take_succ l k (by have := HL.out; omega))
      clear hu
      generalize l.getD k [] = p at hc hp HX
      by_cases hbig : 1048576 < t + p.length
      · have HF : Hid (decide (total l ≤ 1048576) = false) := Lib.hid (by
          rw [decide_eq_false_iff_not]
          have h1 := HX.out; have h2 := HT.out; have h3 := total_take_le l (k + 1)
          omega)
        go_wp2
        go_ret
        exact ⟨by rw [HF.out]; rfl, rfl⟩
      · go_wp2
        go_round
        case rel => exact ⟨k + 1, t + p.length, by omega, by go_num, by go_num, by omega, Lib.hid (by rw [HX.out, ← HT.out])⟩
        case measure => simp [intOf]; omega
    · have HF : Hid (decide (total l ≤ 1048576) = true) := Lib.hid (by
        rw [decide_eq_true_iff]
        have h1 := HT.out; rw [List.take_of_length_le (by have := HL.out; omega)] at h1
        omega)
      go_wp2
      go_ret
      exact ⟨by rw [HF.out]; rfl, rfl⟩
end Go.Proofs.YtgjelinnpcekmaaDoor
