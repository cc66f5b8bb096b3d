/-
  The walk of the reference's Names at this seat's translation.
-/
import Derived.Test.YtnmnhnhlggbijaaDoorRfR
import Derived.Test.YtnmnhnhlggbijaaDoorExpG
namespace Go.Proofs.YtnmnhnhlggbijaaDoor
open Go.RowKit
namespace Exp
open T
set_option maxHeartbeats 2000000 in
theorem namesR_any (s : List UInt8) (e : UInt8) (O : Out) (w : World) (hs : s.length ≤ 1099511627776) (h : Rd e .plain s O) :
    Calls Tryd.prog 52 #[.string ⟨s.toArray⟩, .int .u8 e.toNat] w (NmsPost w.heap.size (toldNames O) w) := by
  have HC := Lib.hid (rpla_any s w.heap.size e (.slice none 0 0) O (w.alloc (.cells #[.string ⟨s.toArray⟩, .int .i64 0, .int .u8 e.toNat, .int .i64 0, .slice none 0 0] 40)) hs (Blk.new w _ _) (World.ownsRow_nil _ _ _ _) h)
  have HO := Lib.hid h
  clear h
  go_enter Tryd.func52, Tryd.ntmps52
  go_wp2_with fail
  refine HC.out.mono ?_
  intro x w1 h1
  clear HC
  cases O with
  | err no =>
    obtain ⟨v, t, n1, q, nv, rfl, _, _, _, _, hrd, hk⟩ := h1
    have hw : Below w.heap.size w w1 := ((Below.refl w.heap.size w).alloc (Nat.le_refl _) _).trans (hk.below (by simp))
    have HW := Lib.hid hw
    have c3 := RdrR.c3 hrd
    have q0 : ((no : Int) != 0) = true := by have := HO.out.no; simp; omega
    clear hrd hk hw
    go_wp2_with fail
    go_ret
    exact ⟨_, rfl, World.ownsRow_nil _ _ _ _, HW.out⟩
  | ok t r =>
    obtain ⟨v, n1, q, nv, rfl, hP, hnq, hql, hrr, hrd, ho, hk⟩ := h1
    have hw : Below w.heap.size w w1 := ((Below.refl w.heap.size w).alloc (Nat.le_refl _) _).trans (hk.below (by simp))
    have HW := Lib.hid hw
    have HN : Hid (Own9 w1 w.heap.size nv (toldNames (.ok t r))) := Lib.hid ho
    have c3 := RdrR.c3 hrd
    have c4 := RdrR.c4 hrd
    clear hrd hk hw hP hnq hql hrr ho
    go_wp2_with fail
    go_ret
    exact ⟨nv, rfl, HN.out, HW.out⟩
end Exp
end Go.Proofs.YtnmnhnhlggbijaaDoor
