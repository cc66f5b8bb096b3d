/-
  The reference's reading of a text, for every text: the three loops and the variable put together.
-/
import Derived.Test.YtnmnhnhlggbijaaDoorRfP
import Derived.Test.YtnmnhnhlggbijaaDoorRfB
namespace Go.Proofs.YtnmnhnhlggbijaaDoor
open Go.RowKit
namespace Exp
open T

theorem rbr_all (m : Nat) : RBrC m := by
  induction m using Nat.strongRecOn with
  | ind m ih => exact rbra_step m (rvar_step m ih) (rquo_step m (rvar_step m ih))
theorem rvar_all (m : Nat) : RVarC m := rvar_step m fun m' _ => rbr_all m'
theorem rpla_any (s : List UInt8) (rb : Nat) (e : UInt8) (nv : Value) (O : Out) (w : World) (hs : s.length ≤ 1099511627776) (hr : RdrR w rb s 0 e 0 nv) (ho : Own9 w rb nv []) (h : Rd e .plain s O) :
    Calls Tryd.prog 23 #[.pointer (some ⟨rb, 0, none⟩), .bool false] w (RReadPost rb s e 0 0 [] O w) :=
  rpla_step s.length (rvar_all _) (rquo_step _ (rvar_all _)) s 0 rb e [] nv O w hs (Nat.zero_le _) (by omega) hr ho (by simp; omega) (by simpa using h)
end Exp
end Go.Proofs.YtnmnhnhlggbijaaDoor
