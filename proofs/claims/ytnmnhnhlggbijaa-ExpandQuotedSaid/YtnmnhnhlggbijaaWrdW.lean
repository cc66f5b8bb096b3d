/-
  The walk of words.Split at this seat's translation: a line cut into words, or the place of a quote without an end.
-/
import Derived.Test.YtnmnhnhlggbijaaWrdP
import Derived.Test.YtnmnhnhlggbijaaKit
import Derived.Test.YtnmnhnhlggbijaaProg
import Derived.Deep.DeepCutAuto
import Derived.OwnWalk
namespace Go.Proofs.Ytnmnhnhlggbijaa
open Go.RowKit Wrd

theorem of_any (c : UInt8) (w : World) : Calls Try.prog 23 #[.int .u8 c.toNat] w fun e w' => e = .returned (.int .u8 (escOf c).toNat) ∧ w = w' := by
  by_cases h : c.toNat = 96
  · have hc : escOf c = 96 := by unfold escOf; rw [if_pos (UInt8.toNat_inj.1 (by simpa using h))]
    have HC := Lib.hid hc
    clear hc
    go_enter Try.func23, Try.ntmps23
    go_wp2
    go_ret
    exact ⟨by rw [HC.out]; first | rfl | (simp [h]; done) | (simp [h]; rfl), rfl⟩
  · have hc : escOf c = 92 := by unfold escOf; rw [if_neg (fun e => h (by rw [e]; rfl))]
    have HC := Lib.hid hc
    clear hc
    go_enter Try.func23, Try.ntmps23
    go_wp2
    go_ret
    exact ⟨by rw [HC.out]; rfl, rfl⟩

theorem st4 {st : Nat} (h : st ≤ 3) : st = 0 ∨ st = 1 ∨ st = 2 ∨ st = 3 := by omega
theorem u8n {c : UInt8} {n : Nat} (hn : n < 256) : (c = UInt8.ofNat n) ↔ c.toNat = n := by rw [← UInt8.toNat_inj, UInt8.toNat_ofNat']; omega
end Go.Proofs.Ytnmnhnhlggbijaa
