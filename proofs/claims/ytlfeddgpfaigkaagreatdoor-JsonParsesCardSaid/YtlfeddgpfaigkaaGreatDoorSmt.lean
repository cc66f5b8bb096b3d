/-
  The walk of strataref0.SameTexts at this seat's translation: are two lists of texts the same?
-/
import Derived.Test.YtlfeddgpfaigkaaGreatDoorTx
import Derived.Test.YtlfeddgpfaigkaaGreatDoorMem
import Derived.WalkSmall
import Derived.Lib.Hide
import Derived.WalkKit
import Derived.WalkLawsBesides
import Derived.Deep.QuietTactic
import Derived.BigQuiet
import Derived.IntWalk
import Derived.RegionTactic
namespace Go.Proofs.YtlfeddgpfaigkaaGreatDoor
open Go.RowKit

theorem below_drewN {B : Nat} {a w : World} (h : Below B a w) (n : Nat) : Below B a (w.drewN n) := ⟨h.os, h.tape, h.output, h.size, h.block⟩
theorem neq_texts (p q : List UInt8) (w : World) : (binOp .neq 9 (.string ⟨p.toArray⟩) (.string ⟨q.toArray⟩)).run Tryz.prog w = .ok (.bool (decide (p ≠ q))) w := by
  rw [binOp_string_neq, ByteArray.toList_eq, ByteArray.toList_eq]
  simp only [Sem.run_pure]
  congr 2
  by_cases h : p = q <;> simp [h]
theorem eq_texts (p q : List UInt8) (w : World) : (binOp .eql 9 (.string ⟨p.toArray⟩) (.string ⟨q.toArray⟩)).run Tryz.prog w = .ok (.bool (decide (p = q))) w := by
  rw [binOp_string_eql, ByteArray.toList_eq, ByteArray.toList_eq]
  simp only [Sem.run_pure]
  congr 2
  by_cases h : p = q <;> simp [h]

set_option maxHeartbeats 400000 in
theorem SameTexts_any (A A' : Option Addr) (n c n' c' B B' : Nat) (l m : List (List UInt8)) (w : World) (hr : Reads w B 1 A n (tx l)) (hr' : Reads w B' 1 A' n' (tx m)) (hB : B ≤ w.heap.size) (hB' : B' ≤ w.heap.size) (hn : n ≤ 140737488355328) (hn' : n' ≤ 140737488355328) :
    Calls Tryz.prog 54 #[.slice A n c, .slice A' n' c'] w fun e w' => e = .returned (.bool (decide (l = m))) ∧ Below w.heap.size w w' := by
  have hl : l.length = n := by have := hr.1; rw [tx_length] at this; omega
  have hm : m.length = n' := by have := hr'.1; rw [tx_length] at this; omega
  have HL := Lib.hid hl
  have HM := Lib.hid hm
  have HR := Lib.hid (hr.more hB)
  have HR' := Lib.hid (hr'.more hB')
  clear hl hr hm hr'
  by_cases hnn : n = n'
  · subst hnn
    go_enter Tryz.func54, Tryz.ntmps54
    go_wp2
    go_loopw [5] (fun i wr => ∃ k : Nat, k ≤ n ∧ i = .int .i64 k ∧ Hid (l.take k = m.take k) ∧ Hid (Below w.heap.size w wr)) (fun i _ => n - (intOf i).toNat)
    case atStart => exact ⟨0, by omega, rfl, Lib.hid (by simp), Lib.hid (Below.refl _ _)⟩
    case round =>
      obtain ⟨k, hk, rfl, HE, HW⟩ := hrel
      by_cases hlt : k < n
      · obtain ⟨ad, u, rfl, _, hu, hc⟩ := (HR.out.below HW.out).at_ hlt
        obtain ⟨ad', u', rfl, _, hu', hc'⟩ := (HR'.out.below HW.out).at_ hlt
        obtain rfl := tx_get hu (by have := HL.out; omega)
        obtain rfl := tx_get hu' (by have := HM.out; omega)
        have HX : Hid (l.getD k [] = m.getD k [] → l.take (k + 1) = m.take (k + 1)) := Lib.hid (fun h => by
          have := HL.out; have := HM.out
          rw [List.take_succ_eq_append_getElem (by omega), List.take_succ_eq_append_getElem (by omega), HE.out]
          simp only [List.getD, List.getElem?_eq_getElem (show k < l.length by omega), List.getElem?_eq_getElem (show k < m.length by omega), Option.getD_some] at h
          rw [h])
        have HY : Hid (l.getD k [] ≠ m.getD k [] → l ≠ m) := Lib.hid (fun h e => h (by rw [e]))
        clear hu hu'
        generalize l.getD k [] = p at hc HX HY
        generalize m.getD k [] = q at hc' HX HY
        have c1 := fun wx => neq_texts p q wx
        by_cases hpq : p = q
        · rw [decide_eq_false (by simp [hpq])] at c1
          have H1 := Lib.hid (HX.out hpq)
          go_wp2_with fail
          go_quiet (fail)
          have HW1 := Lib.hid (below_drewN HW.out nq)
          go_wp2
          go_roundw
          case rel => exact ⟨k + 1, by omega, by go_num, H1, HW1⟩
          case measure => simp [intOf]; omega
        · rw [decide_eq_true (by simp [hpq])] at c1
          have H1 := Lib.hid (HY.out hpq)
          go_wp2_with fail
          go_quiet (fail)
          have HW1 := Lib.hid (below_drewN HW.out nq)
          rw [show (!(p == q)) = true by simp [hpq]]
          go_wp2
          go_ret
          exact ⟨by rw [decide_eq_false H1.out]; rfl, HW1.out⟩
      · go_wp2
        go_ret
        refine ⟨?_, HW.out⟩
        have := HE.out
        rw [List.take_of_length_le (by have := HL.out; omega), List.take_of_length_le (by have := HM.out; omega)] at this
        rw [this]; simp
  · have HF : Hid (decide (l = m) = false) := Lib.hid (by
      rw [decide_eq_false_iff_not]; rintro rfl
      have := HL.out; have := HM.out; omega)
    go_enter Tryz.func54, Tryz.ntmps54
    go_wp2
    go_ret
    exact ⟨by rw [HF.out]; rfl, Below.refl _ _⟩
end Go.Proofs.YtlfeddgpfaigkaaGreatDoor
