/-
  The walks of the document's Reader (strataref04), its small steps: fail, end, blanks, byte, word.
-/
import Derived.Test.YtlfeddgpfaigkaaGreatDoorJsOa
import Derived.Test.YtlfeddgpfaigkaaGreatDoorJsAx
import Derived.Deep.RegionHeld3
namespace Go.Proofs.YtlfeddgpfaigkaaGreatDoor
open Go.RowKit
namespace Js
/-- A reader: its text, how far it is read, what is wrong and where. -/
def Rb (w : World) (rb : Nat) (s : List UInt8) (i e wh : Nat) : Prop := Blk w rb 109 #[.string ⟨s.toArray⟩, .int .i64 (i : Nat), .int .i64 (e : Nat), .int .i64 (wh : Nat)]
theorem Rb.cells {w : World} {rb : Nat} {s : List UInt8} {i e wh : Nat} (h : Rb w rb s i e wh) : w.cell? ⟨rb, 0, none⟩ = some (.string ⟨s.toArray⟩) ∧ w.cell? ⟨rb, 1, none⟩ = some (.int .i64 (i : Nat)) ∧ w.cell? ⟨rb, 2, none⟩ = some (.int .i64 (e : Nat)) ∧ w.cell? ⟨rb, 3, none⟩ = some (.int .i64 (wh : Nat)) :=
  ⟨Blk.cell h 0, Blk.cell h 1, Blk.cell h 2, Blk.cell h 3⟩
theorem Rb.drewN {w : World} {rb : Nat} {s : List UInt8} {i e wh : Nat} (h : Rb w rb s i e wh) (n : Nat) : Rb (w.drewN n) rb s i e wh := h
theorem Rb.at_ {w : World} {rb : Nat} {s : List UInt8} {i e wh : Nat} (h : Rb w rb s i e wh) (j : Nat) : Rb (w.setCell ⟨rb, 1, none⟩ (.int .i64 (j : Nat))) rb s j e wh := Blk.set_ h 1 _
theorem Rb.fail {w : World} {rb : Nat} {s : List UInt8} {i e wh : Nat} (h : Rb w rb s i e wh) (no at_ : Nat) : Rb ((w.setCell ⟨rb, 2, none⟩ (.int .i64 (no : Nat))).setCell ⟨rb, 3, none⟩ (.int .i64 (at_ : Nat))) rb s i no at_ := Blk.set_ (Blk.set_ h 2 _) 3 _
/-- All is as it was, but for the reader. -/
def KR (rb : Nat) (w w' : World) : Prop := Kp w.heap.size (· = rb) w w'
theorem kr_refl (rb : Nat) (w : World) : KR rb w w := Kp.refl _ _ _
theorem kr_drewN (rb : Nat) (w : World) (n : Nat) : KR rb w (w.drewN n) := (Kp.refl _ _ _).drewN n
theorem kr_trans {rb : Nat} {w w1 w2 : World} (h : KR rb w w1) (k : KR rb w1 w2) : KR rb w w2 := Kp.trans h (Kp.less k (Kp.size h))
theorem kr_set {rb o : Nat} {w w1 : World} (h : KR rb w w1) (u : Value) : KR rb w (w1.setCell ⟨rb, o, none⟩ u) := Kp.setCell h (.inr rfl) u
theorem kr_size {rb : Nat} {w w1 : World} (h : KR rb w w1) : w.heap.size ≤ w1.heap.size := Kp.size h
theorem kr_below {rb : Nat} {w w1 w2 : World} (h : KR rb w w1) (hb : Below w1.heap.size w1 w2) : KR rb w w2 := kr_trans h (Kp.of_below hb)
theorem failR_any (rb : Nat) (s : List UInt8) (i wh no at_ : Nat) (w : World) (hr : Rb w rb s i 0 wh) :
    Calls Tryz.prog 49 #[.pointer (some ⟨rb, 0, none⟩), .int .i64 (no : Nat), .int .i64 (at_ : Nat)] w fun x w' => x = .returned (.tuple #[]) ∧ Rb w' rb s i no at_ ∧ KR rb w w' := by
  have HR := Lib.hid hr
  obtain ⟨c0, c1, c2, c3⟩ := hr.cells
  have f2 := Blk.frozen hr 2
  have f3 := Blk.frozen hr 3
  clear hr c0 c1
  go_enter Tryz.func49, Tryz.ntmps49
  go_wp2
  go_end0
  exact ⟨rfl, HR.out.fail no at_, kr_set (kr_set (kr_refl _ _) _) _⟩
theorem endR_t (rb : Nat) (s : List UInt8) (i e wh : Nat) (w : World) (hr : Rb w rb s i e wh) (hi : s.length ≤ i) :
    Calls Tryz.prog 48 #[.pointer (some ⟨rb, 0, none⟩)] w fun x w' => x = .returned (.bool true) ∧ ∃ n, w' = w.drewN n := by
  obtain ⟨c0, c1, c2, c3⟩ := hr.cells
  have l1 : ((s.length : Int) ≤ (i : Int)) = True := eq_true (by omega)
  clear hr c2 c3
  go_enter Tryz.func48, Tryz.ntmps48
  go_wp2_with fail
  go_quiet (fail)
  go_wp2
  go_ret
  exact ⟨rfl, _, rfl⟩
theorem endR_f (rb : Nat) (s : List UInt8) (i e wh : Nat) (w : World) (hr : Rb w rb s i e wh) (hi : i < s.length) :
    Calls Tryz.prog 48 #[.pointer (some ⟨rb, 0, none⟩)] w fun x w' => x = .returned (.bool false) ∧ ∃ n, w' = w.drewN n := by
  obtain ⟨c0, c1, c2, c3⟩ := hr.cells
  have l1 : ((s.length : Int) ≤ (i : Int)) = False := eq_false (by omega)
  clear hr c2 c3
  go_enter Tryz.func48, Tryz.ntmps48
  go_wp2_with fail
  go_quiet (fail)
  go_wp2
  go_ret
  exact ⟨rfl, _, rfl⟩
end Js
end Go.Proofs.YtlfeddgpfaigkaaGreatDoor
