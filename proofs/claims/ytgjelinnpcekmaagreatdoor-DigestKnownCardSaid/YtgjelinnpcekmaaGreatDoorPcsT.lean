/-
  The walks of CopyTexts and SameTexts at this seat's translation: lists of texts copied, compared.
-/
import Derived.Test.YtgjelinnpcekmaaGreatDoorJP
namespace Go.Proofs.YtgjelinnpcekmaaGreatDoor
open Go.RowKit

theorem infoStr : (Tryz.prog.info? 9).map (fun i => (i.zero, i.size, i.bytes)) = some (some (.string .empty), 1, 16) := by kernel_rfl
theorem own_reads {w : World} {base n : Nat} {e : TypeId} {v : Value} {xs : List Value} (h : w.ownsRow base e 1 v n xs) : ∃ A c, v = .slice A n c ∧ Reads w w.heap.size 1 A n xs := by
  have h0 := h
  rcases h.2 with ⟨rfl, rfl⟩ | ⟨g, cap, cur, rfl, _⟩
  · exact ⟨none, 0, rfl, Reads.of_own h0⟩
  · exact ⟨_, cap, rfl, Reads.of_own h0⟩

theorem Reads.go {w w' : World} {B size n : Nat} {A : Option Addr} {xs : List Value} (h : Reads w B size A n xs) (hB : B ≤ w.heap.size) (hb : Below w.heap.size w w') : Reads w' w'.heap.size size A n xs :=
  ((h.more hB).below hb).more hb.size

set_option maxHeartbeats 400000 in
theorem CopyTexts_any (A : Option Addr) (n c : Nat) (l : List (List UInt8)) (w : World) (hr : Reads w w.heap.size 1 A n (tx l)) (hn : n ≤ 8796093022208) :
    Calls Tryz.prog 45 #[.slice A n c] w fun e w' => ∃ v, e = .returned v ∧ w'.ownsRow w.heap.size 9 1 v n (tx l) ∧ Below w.heap.size w w' := by
  obtain ⟨i0, hi0, hz0, hz1, hz2⟩ := info_parts infoStr
  have hl : l.length = n := by have := hr.1; rw [tx_length] at this; omega
  have HL := Lib.hid hl
  have HR := Lib.hid hr
  clear hl hr
  go_enter Tryz.func45, Tryz.ntmps45
  go_wp2
  go_loopw [3, 4] (fun v i wr => ∃ k : Nat, k ≤ n ∧ i = .int .i64 k ∧ Hid (wr.ownsRow w.heap.size 9 1 v k (tx (l.take k))) ∧ Hid (Below w.heap.size w wr)) (fun _ i _ => n - (intOf i).toNat)
  case atStart => exact ⟨0, by omega, rfl, Lib.hid (by simpa [tx] using World.ownsRow_nil _ _ _ _), Lib.hid (Below.refl _ _)⟩
  case round =>
    obtain ⟨k, hk, rfl, HO, HW⟩ := hrel
    by_cases hlt : k < n
    · obtain ⟨ad, u, rfl, _, hu, hc⟩ := (HR.out.below HW.out).at_ hlt
      obtain rfl := tx_get hu (by have := HL.out; omega)
      have HX : Hid (tx (l.take (k + 1)) = tx (l.take k) ++ [.string ⟨(l.getD k []).toArray⟩]) := Lib.hid (by
        have := HL.out
        rw [List.take_succ_eq_append_getElem (by omega), tx_append]
        simp [tx, List.getD, List.getElem?_eq_getElem (show k < l.length by omega)])
      clear hu
      generalize l.getD k [] = p at hc HX
      go_wp2_with (at_builtin; refine wpList_append_own _ rfl _ _ 29 rfl w.heap.size 9 i0 (.string ByteArray.empty) 1 16 Tryz.underlying29 hi0 hz0 hz1 hz2 rfl (by decide) _ _ _ rfl (HO.out.alloc _) ⟨wr.heap.size, 0, none⟩ 1 1 [.string ⟨p.toArray⟩] rfl rfl (cell_one_new _ _ _) (by intro x hx; simp at hx; subst hx; rfl) (by unfold maxLen; omega) (by omega) (by have := HW.out.size; simp; omega) ?_; intro v1 w1 hown1 hgrow1 hnil1)
      have hB1 : Hid (Below w.heap.size w w1) := Lib.hid (Below.grown (HW.out.alloc HW.out.size _) hgrow1 (by have := HW.out.size; simp; omega) (fun j hj => (HO.out.lt j hj).1))
      clear hgrow1 hnil1
      go_roundw
      case rel => exact ⟨k + 1, by omega, by go_num, Lib.hid (by rw [HX.out]; exact hown1), hB1⟩
      case measure => simp [intOf]; omega
    · go_wp2
      go_ret
      have hkn : k = n := by omega
      subst hkn
      refine ⟨_, rfl, ?_, HW.out⟩
      have := HO.out
      rwa [List.take_of_length_le (by have := HL.out; omega)] at this

theorem neq_texts (p q : List UInt8) (w : World) : (binOp .neq 9 (.string ⟨p.toArray⟩) (.string ⟨q.toArray⟩)).run Tryz.prog w = .ok (.bool (decide (p ≠ q))) w := by
  rw [binOp_string_neq, ByteArray.toList_eq, ByteArray.toList_eq]
  simp only [Sem.run_pure]
  congr 2
  by_cases h : p = q <;> simp [h]
theorem eq_texts (p q : List UInt8) (w : World) : (binOp .eql 9 (.string ⟨p.toArray⟩) (.string ⟨q.toArray⟩)).run Tryz.prog w = .ok (.bool (decide (p = q))) w := by
  rw [binOp_string_eql, ByteArray.toList_eq, ByteArray.toList_eq]
  simp only [Sem.run_pure]
  congr 2
  by_cases h : p = q <;> simp [h]

set_option maxHeartbeats 400000 in
theorem SameTexts_any (A A' : Option Addr) (n c n' c' B B' : Nat) (l m : List (List UInt8)) (w : World) (hr : Reads w B 1 A n (tx l)) (hr' : Reads w B' 1 A' n' (tx m)) (hB : B ≤ w.heap.size) (hB' : B' ≤ w.heap.size) (hn : n ≤ 140737488355328) (hn' : n' ≤ 140737488355328) :
    Calls Tryz.prog 39 #[.slice A n c, .slice A' n' c'] w fun e w' => e = .returned (.bool (decide (l = m))) ∧ Below w.heap.size w w' := by
  have hl : l.length = n := by have := hr.1; rw [tx_length] at this; omega
  have hm : m.length = n' := by have := hr'.1; rw [tx_length] at this; omega
  have HL := Lib.hid hl
  have HM := Lib.hid hm
  have HR := Lib.hid (hr.more hB)
  have HR' := Lib.hid (hr'.more hB')
  clear hl hr hm hr'
  by_cases hnn : n = n'
  · subst hnn
    go_enter Tryz.func39, Tryz.ntmps39
    go_wp2
    go_loopw [5] (fun i wr => ∃ k : Nat, k ≤ n ∧ i = .int .i64 k ∧ Hid (l.take k = m.take k) ∧ Hid (Below w.heap.size w wr)) (fun i _ => n - (intOf i).toNat)
    case atStart => exact ⟨0, by omega, rfl, Lib.hid (by simp), Lib.hid (Below.refl _ _)⟩
    case round =>
      obtain ⟨k, hk, rfl, HE, HW⟩ := hrel
      by_cases hlt : k < n
      · obtain ⟨ad, u, rfl, _, hu, hc⟩ := (HR.out.below HW.out).at_ hlt
        obtain ⟨ad', u', rfl, _, hu', hc'⟩ := (HR'.out.below HW.out).at_ hlt
        obtain rfl := tx_get hu (by have := HL.out; omega)
        obtain rfl := tx_get hu' (by have := HM.out; omega)
        have HX : Hid (l.getD k [] = m.getD k [] → l.take (k + 1) = m.take (k + 1)) := Lib.hid (fun h => by
          have := HL.out; have := HM.out
          rw [List.take_succ_eq_append_getElem (by omega), List.take_succ_eq_append_getElem (by omega), HE.out]
          simp only [List.getD, List.getElem?_eq_getElem (show k < l.length by omega), List.getElem?_eq_getElem (show k < m.length by omega), Option.getD_some] at h
          rw [h])
        have HY : Hid (l.getD k [] ≠ m.getD k [] → l ≠ m) := Lib.hid (fun h e => h (by rw [e]))
        clear hu hu'
        generalize l.getD k [] = p at hc HX HY
        generalize m.getD k [] = q at hc' HX HY
        have c1 := fun wx => neq_texts p q wx
        by_cases hpq : p = q
        · rw [decide_eq_false (by simp [hpq])] at c1
          have H1 := Lib.hid (HX.out hpq)
          go_wp2_with fail
          go_quiet (fail)
          have HW1 := Lib.hid (below_drewN HW.out nq)
          go_wp2
          go_roundw
          case rel => exact ⟨k + 1, by omega, by go_num, H1, HW1⟩
          case measure => simp [intOf]; omega
        · rw [decide_eq_true (by simp [hpq])] at c1
          have H1 := Lib.hid (HY.out hpq)
          go_wp2_with fail
          go_quiet (fail)
          have HW1 := Lib.hid (below_drewN HW.out nq)
          rw [show (!(p == q)) = true by simp [hpq]]
          go_wp2
          go_ret
          exact ⟨by rw [decide_eq_false H1.out]; rfl, HW1.out⟩
      · go_wp2
        go_ret
        refine ⟨?_, HW.out⟩
        have := HE.out
        rw [List.take_of_length_le (by have := HL.out; omega), List.take_of_length_le (by have := HM.out; omega)] at this
        rw [this]; simp
  · have HF : Hid (decide (l = m) = false) := Lib.hid (by
      rw [decide_eq_false_iff_not]; rintro rfl
      have := HL.out; have := HM.out; omega)
    go_enter Tryz.func39, Tryz.ntmps39
    go_wp2
    go_ret
    exact ⟨by rw [HF.out]; rfl, Below.refl _ _⟩
end Go.Proofs.YtgjelinnpcekmaaGreatDoor
