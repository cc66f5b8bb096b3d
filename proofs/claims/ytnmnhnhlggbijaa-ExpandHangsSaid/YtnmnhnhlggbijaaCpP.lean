/-
  The walk of strataref0's CopyPairs at this seat's translation.
-/
import Derived.Test.YtnmnhnhlggbijaaPrs
import Derived.Test.YtnmnhnhlggbijaaSmt
import Derived.Test.YtnmnhnhlggbijaaApa
import Derived.IntWalk
import Derived.Laws.StructEq
import Derived.StillTailTactics
namespace Go.Proofs.Ytnmnhnhlggbijaa
open Go.RowKit
theorem infoPair : (Try.prog.info? 39).map (fun i => (i.zero, i.size, i.bytes)) = some (some (.agg #[.string .empty, .string .empty]), 2, 32) := by kernel_rfl
theorem infoPair2 : (Try.prog.info? 39).map (·.size) = some 2 := by kernel_rfl
theorem reads_new2 (w : World) (a0 a1 : Value) : Reads (w.alloc (.cells #[a0, a1] 39)) (w.alloc (.cells #[a0, a1] 39)).heap.size 2 (some ⟨w.heap.size, 0, none⟩) 1 [a0, a1] := Reads.of_block (heap_alloc_new w _) rfl
theorem one2 (p q : List UInt8) : ∀ u ∈ [Value.string ⟨p.toArray⟩, Value.string ⟨q.toArray⟩], u.oneCell' = true := by intro x hx; simp at hx; rcases hx with rfl | rfl <;> rfl
theorem px_take_succ (l : List (List UInt8 × List UInt8)) (k : Nat) (h : k < l.length) : px (l.take (k + 1)) = px (l.take k) ++ [.string ⟨(l.getD k ([], [])).1.toArray⟩, .string ⟨(l.getD k ([], [])).2.toArray⟩] := by
  rw [List.take_succ_eq_append_getElem h, px_append]
  simp [px, List.getD, List.getElem?_eq_getElem h]
set_option maxHeartbeats 1000000 in
set_option maxRecDepth 100000 in
theorem copyPairs_any (A : Option Addr) (n c : Nat) (l : List (List UInt8 × List UInt8)) (w : World) (hr : Reads w w.heap.size 2 A n (px l)) (hn : n ≤ 1099511627776) :
    Calls Try.prog 17 #[.slice A n c] w fun e w' => ∃ v, e = .returned v ∧ w'.ownsRow w.heap.size 39 2 v n (px l) ∧ Below w.heap.size w w' := by
  obtain ⟨i0, hi0, hz0, hz1, hz2⟩ := info_parts infoPair
  have hl : l.length = n := by have := hr.1; rw [px_length] at this; omega
  have HL := Lib.hid hl
  have HR := Lib.hid hr
  clear hl hr
  go_enter Try.func17, Try.ntmps17
  go_wp2_with fail
  go_loopw [3, 4] (fun v i wr => ∃ k : Nat, k ≤ n ∧ i = .int .i64 k ∧ Hid (wr.ownsRow w.heap.size 39 2 v k (px (l.take k))) ∧ Hid (Below w.heap.size w wr)) (fun _ i _ => n - (intOf i).toNat)
  case atStart => exact ⟨0, by omega, rfl, Lib.hid (by simpa [px] using World.ownsRow_nil _ _ _ _), Lib.hid (Below.refl _ _)⟩
  case round =>
    obtain ⟨k, hk, rfl, HO, HW⟩ := hrel
    by_cases hlt : k < n
    · obtain ⟨ad, rfl, _, k0, k1⟩ := at_pair (HR.out.below HW.out) hlt
      have HX := Lib.hid (px_take_succ l k (by have := HL.out; omega))
      generalize (l.getD k ([], [])).1 = p at k0 HX
      generalize (l.getD k ([], [])).2 = q at k1 HX
      go_wp2_with (at_builtin; refine wpList_append_any _ rfl _ _ 29 rfl w.heap.size 39 i0 _ 2 32 Try.underlying29 hi0 hz0 hz1 hz2 rfl (by decide) _ _ _ rfl (World.ownsRow.alloc HO.out _) _ _ 1 1 [.string ⟨p.toArray⟩, .string ⟨q.toArray⟩] rfl (reads_new2 _ _ _) (one2 p q) (by unfold maxLen; omega) (by omega) (by have := HW.out.size; simp; omega) ?_; intro v1 w1 hown1 hgrow1 _; have HO1 := Lib.hid hown1; have HB1 : Hid (Below w.heap.size w w1) := Lib.hid (Below.grown (HW.out.alloc HW.out.size _) hgrow1 (by have := HW.out.size; simp; omega) (fun j hj => (HO.out.lt j hj).1)); clear hown1 hgrow1)
      go_roundw
      case rel => exact ⟨k + 1, by omega, by go_num, Lib.hid (by rw [HX.out]; exact HO1.out), HB1⟩
      case measure => simp [intOf]; omega
    · have hkn : k = n := by omega
      subst hkn
      have ho2 := HO.out
      rw [List.take_of_length_le (by have := HL.out; omega)] at ho2
      have HO2 := Lib.hid ho2
      clear ho2 HO
      go_wp2
      go_ret
      exact ⟨_, rfl, HO2.out, HW.out⟩
end Go.Proofs.Ytnmnhnhlggbijaa
