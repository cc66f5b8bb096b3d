/-
  The reference's reading of a document, for every text; a variable's value.
-/
import Derived.Test.YtnmnhnhlggbijaaDoorRfR
import Derived.Test.YtnmnhnhlggbijaaDoorRfD
import Derived.Test.YtnmnhnhlggbijaaDoorPrs
namespace Go.Proofs.YtnmnhnhlggbijaaDoor
open Go.RowKit
namespace Exp
open T
theorem rdoc_all (s : List UInt8) (rb : Nat) (e : UInt8) (nv : Value) (O : Out) (w : World) (hs : s.length ≤ 1099511627776) (hr : RdrR w rb s 0 e 0 nv) (ho : Own9 w rb nv []) (h : Rd e .doc s O) :
    Calls Tryd.prog 30 #[.pointer (some ⟨rb, 0, none⟩)] w (RReadPost rb s e 0 0 [] O w) :=
  rdoc_any s 0 rb e [] nv O w s.length (rvar_all _) hs (Nat.zero_le _) (by omega) hr ho (by simp; omega) (by simpa using h)

theorem valOf_app (vars : List (List UInt8 × List UInt8)) (p : List UInt8 × List UInt8) (n : List UInt8) : valOf (vars ++ [p]) n = if p.1 = n then p.2 else valOf vars n := by
  unfold valOf
  rw [List.foldl_append]
  rfl
theorem valueR_any (n : List UInt8) (vars : List (List UInt8 × List UInt8)) (A : Option Addr) (k c B : Nat) (w : World) (hr : Reads w B 2 A k (px vars)) (hk : k ≤ 4398046511104) :
    Calls Tryd.prog 57 #[.slice A k c, .string ⟨n.toArray⟩] w fun x w' => x = .returned (.string ⟨(valOf vars n).toArray⟩) ∧ w = w' := by
  have hl : vars.length = k := by have := hr.1; rw [px_length] at this; omega
  have HL := Lib.hid hl
  have HR := Lib.hid hr
  clear hl hr
  go_enter Tryd.func57, Tryd.ntmps57
  go_wp2_with fail
  go_loop [5] (fun v => ∃ i : Nat, i ≤ k ∧ v = .int .i64 ((i : Int) - 1) ∧ Hid (valOf vars n = valOf (vars.take i) n)) (fun v => (intOf v + 1).toNat)
  case atStart => exact ⟨k, by omega, rfl, Lib.hid (by rw [List.take_of_length_le (by have := HL.out; omega)])⟩
  case round =>
    obtain ⟨i, hi, rfl, HX⟩ := hrel
    by_cases hlt : 0 < i
    · obtain ⟨j, rfl⟩ : ∃ j, i = j + 1 := ⟨i - 1, by omega⟩
      have hij : ((j + 1 : Nat) : Int) - 1 = j := by omega
      rw [hij]
      obtain ⟨ad, rfl, _, k0, k1⟩ := at_pair HR.out (k := j) (by omega)
      have HY : Hid (valOf (vars.take (j + 1)) n = if (vars.getD j ([], [])).1 = n then (vars.getD j ([], [])).2 else valOf (vars.take j) n) := Lib.hid (by
        have := HL.out
        rw [List.take_succ_eq_append_getElem (by omega), valOf_app]
        simp [List.getD, List.getElem?_eq_getElem (show j < vars.length by omega)])
      generalize (vars.getD j ([], [])).1 = key at k0 HY
      generalize (vars.getD j ([], [])).2 = val at k1 HY
      clear hij hlt
      by_cases hkn : key = n
      · have HV : Hid (valOf vars n = val) := Lib.hid (by rw [HX.out, HY.out, if_pos hkn])
        subst hkn
        clear HX HY
        go_wp2_with fail
        go_ret
        exact ⟨by rw [HV.out]; rfl, rfl⟩
      · have HV : Hid (valOf vars n = valOf (vars.take j) n) := Lib.hid (by rw [HX.out, HY.out, if_neg hkn])
        have hq : (key == n) = false := by rw [beq_eq_false_iff_ne]; exact hkn
        clear HX HY hkn
        go_wp2_with fail
        go_round
        case rel => exact ⟨j, by omega, by go_num, HV⟩
        case measure => simp [intOf]
    · obtain rfl : i = 0 := by omega
      have HV : Hid (valOf vars n = []) := Lib.hid (by rw [HX.out]; rfl)
      clear HX hlt
      go_wp2_with fail
      go_ret
      exact ⟨by rw [HV.out]; rfl, rfl⟩
end Exp
end Go.Proofs.YtnmnhnhlggbijaaDoor
