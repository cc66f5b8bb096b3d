/-
  The walk of strataref0.SameWords at this seat's translation: are two lists of words the same?
-/
import Derived.Test.YtapghojjkeegjaaDoorWrdW
import Derived.Test.YtapghojjkeegjaaDoorMem
import Derived.Deep.QuietTactic
import Derived.BigQuiet
import Derived.Laws.StructEq
namespace Go.Proofs.YtapghojjkeegjaaDoor
open Go.RowKit Wrd

theorem run_loadAt_list {P : Program} (w : World) (ad : Addr) (ty : TypeId) (cs : List Value) (d : TypeDesc) (hc : ∀ j v, cs[j]? = some v → w.cell? (ad.add j) = some v)
    (hu : P.underlying ty = some d) (hd : TypeDesc.isRow d = true) (hi : (P.info? ty).map (·.size) = some cs.length) :
    (Instr.loadAt ty (.pointer (some ad))).run P w = .ok (.agg cs.toArray) w := by
  have hl : (loadCells ad cs.length).run P w = .ok cs.toArray w := run_loadCells_list (P := P) w ad cs hc
  cases hq : P.info? ty with
  | none => simp [hq] at hi
  | some i =>
    have hs : i.size = cs.length := by simpa [hq] using hi
    have hagg : (isAgg ty).run P w = .ok true w := by
      unfold isAgg
      rw [Sem.run_bind, run_underlying hu w]
      cases d <;> simp_all
    simp only [Instr.loadAt, Instr.sureAddr, Sem.run_bind, Sem.run_pure, Result.andThen_ok]
    simp [loadVar, Sem.run_bind, hagg, sizeOf, typeInfo, hq, hs, hl]
theorem wd_get {l : List (Nat × List UInt8)} {k : Nat} (h : k < l.length) : (wd l)[k * 2]? = some (.int .i64 (l.getD k (0, [])).1) ∧ (wd l)[k * 2 + 1]? = some (.string ⟨(l.getD k (0, [])).2.toArray⟩) := by
  induction l generalizing k with
  | nil => simp at h
  | cons x l ih =>
    have e : wd (x :: l) = .int .i64 x.1 :: .string ⟨x.2.toArray⟩ :: wd l := by simp [wd]
    rw [e]
    cases k with
    | zero => simp
    | succ k =>
      have := ih (by simpa using h : k < l.length)
      rw [show (k + 1) * 2 = k * 2 + 2 by omega]
      simpa using this
theorem wd_length (l : List (Nat × List UInt8)) : (wd l).length = l.length * 2 := by
  induction l with
  | nil => rfl
  | cons x l ih =>
    have e : wd (x :: l) = .int .i64 x.1 :: .string ⟨x.2.toArray⟩ :: wd l := by simp [wd]
    rw [e, List.length_cons, List.length_cons, ih, List.length_cons]; omega
/-- A word of a list, where it lies. -/
theorem at_word {w : World} {B n : Nat} {A : Option Addr} {l : List (Nat × List UInt8)} (h : Reads w B 2 A n (wd l)) {k : Nat} (hk : k < n) :
    ∃ ad, A = some ad ∧ ad.block < B ∧ w.cell? (ad.add (k * 2)) = some (.int .i64 (l.getD k (0, [])).1) ∧ w.cell? ⟨(ad.add (k * 2)).block, (ad.add (k * 2)).off + 1, none⟩ = some (.string ⟨(l.getD k (0, [])).2.toArray⟩) := by
  obtain ⟨ad, hA, hb, hc⟩ := h.2 (by omega)
  have hl : l.length = n := by have := h.1; rw [wd_length] at this; omega
  obtain ⟨g1, g2⟩ := wd_get (l := l) (k := k) (by omega)
  have e := hc _ _ g2
  rw [← add_of_add] at e
  exact ⟨ad, hA, hb, hc _ _ g1, by rw [← e]; unfold Addr.add; simp⟩
theorem neq_word (a b : Nat) (p q : List UInt8) (w : World) :
    (binOp .neq 41 (.agg #[.int .i64 a, .string ⟨p.toArray⟩]) (.agg #[.int .i64 b, .string ⟨q.toArray⟩])).run Tryd.prog w = .ok (.bool (decide ((a, p) ≠ (b, q)))) w := by
  have hi : ((a : Int) = b) = (a = b) := by rw [eq_iff_iff]; omega
  go_simp
  by_cases h : a = b <;> by_cases g : p = q <;> simp [h, g]

set_option maxHeartbeats 400000 in
theorem SameWords_any (A A' : Option Addr) (n c n' c' B B' : Nat) (l m : List (Nat × List UInt8)) (w : World) (hr : Reads w B 2 A n (wd l)) (hr' : Reads w B' 2 A' n' (wd m)) (hB : B ≤ w.heap.size) (hB' : B' ≤ w.heap.size) (hn : n ≤ 140737488355328) (hn' : n' ≤ 140737488355328) :
    Calls Tryd.prog 12 #[.slice A n c, .slice A' n' c'] w fun e w' => e = .returned (.bool (decide (l = m))) ∧ Below w.heap.size w w' := by
  have hl : l.length = n := by have := hr.1; rw [wd_length] at this; omega
  have hm : m.length = n' := by have := hr'.1; rw [wd_length] at this; omega
  have HL := Lib.hid hl
  have HM := Lib.hid hm
  have HR := Lib.hid (hr.more hB)
  have HR' := Lib.hid (hr'.more hB')
  clear hl hr hm hr'
  by_cases hnn : n = n'
  · subst hnn
    go_enter Tryd.func12, Tryd.ntmps12
    go_wp2
    go_loopw [5] (fun i wr => ∃ k : Nat, k ≤ n ∧ i = .int .i64 k ∧ Hid (l.take k = m.take k) ∧ Hid (Below w.heap.size w wr)) (fun i _ => n - (intOf i).toNat)
    case atStart => exact ⟨0, by omega, rfl, Lib.hid (by simp), Lib.hid (Below.refl _ _)⟩
    case round =>
      obtain ⟨k, hk, rfl, HE, HW⟩ := hrel
      by_cases hlt : k < n
      · obtain ⟨ad, rfl, _, h1, g1⟩ := at_word (HR.out.below HW.out) hlt
        obtain ⟨ad', rfl, _, h2, g2⟩ := at_word (HR'.out.below HW.out) hlt
        have HX : Hid (l.getD k (0, []) = m.getD k (0, []) → l.take (k + 1) = m.take (k + 1)) := Lib.hid (fun h => by
          have := HL.out; have := HM.out
          rw [List.take_succ_eq_append_getElem (by omega), List.take_succ_eq_append_getElem (by omega), HE.out]
          simp only [List.getD, List.getElem?_eq_getElem (show k < l.length by omega), List.getElem?_eq_getElem (show k < m.length by omega), Option.getD_some] at h
          rw [h])
        have HY : Hid (l.getD k (0, []) ≠ m.getD k (0, []) → l ≠ m) := Lib.hid (fun h e => h (by rw [e]))
        generalize l.getD k (0, []) = x at h1 g1 HX HY
        generalize m.getD k (0, []) = y at h2 g2 HX HY
        obtain ⟨a, p⟩ := x
        obtain ⟨b, q⟩ := y
        simp only at h1 h2 g1 g2
        have c1 := fun wx => neq_word a b p q wx
        by_cases hpq : (a, p) = (b, q)
        · rw [decide_eq_false (by simp [hpq])] at c1
          have H1 := Lib.hid (HX.out hpq)
          clear hpq
          go_wp2_with fail
          go_quiet (fail)
          have HW1 := Lib.hid (below_drewN HW.out nq)
          go_wp2
          go_roundw
          case rel => exact ⟨k + 1, by omega, by go_num, H1, HW1⟩
          case measure => simp [intOf]; omega
        · rw [decide_eq_true hpq] at c1
          have H1 := Lib.hid (HY.out hpq)
          clear hpq
          go_wp2_with fail
          go_quiet (fail)
          have HW1 := Lib.hid (below_drewN HW.out nq)
          go_wp2
          go_ret
          exact ⟨by rw [decide_eq_false H1.out]; rfl, HW1.out⟩
      · go_wp2
        go_ret
        refine ⟨?_, HW.out⟩
        have := HE.out
        rw [List.take_of_length_le (by have := HL.out; omega), List.take_of_length_le (by have := HM.out; omega)] at this
        rw [this]; simp
  · have HF : Hid (decide (l = m) = false) := Lib.hid (by
      rw [decide_eq_false_iff_not]; rintro rfl
      have := HL.out; have := HM.out; omega)
    go_enter Tryd.func12, Tryd.ntmps12
    go_wp2
    go_ret
    exact ⟨by rw [HF.out]; rfl, Below.refl _ _⟩
end Go.Proofs.YtapghojjkeegjaaDoor
