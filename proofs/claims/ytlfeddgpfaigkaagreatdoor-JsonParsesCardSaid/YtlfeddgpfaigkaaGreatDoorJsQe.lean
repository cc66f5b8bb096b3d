/-
  The walks of the document's answer for layer 4 (strataref04): digit, the Reader's unit, encoded.
-/
import Derived.Test.YtlfeddgpfaigkaaGreatDoorJsQd
namespace Go.Proofs.YtlfeddgpfaigkaaGreatDoor
open Go.RowKit
namespace Js
/-- A digit of sixteen, or -1. -/
def dgV (c : UInt8) : Int := match hexd c with
  | some d => d
  | none => -1
set_option maxRecDepth 100000 in
theorem digitR_any (c : UInt8) (w : World) : Calls Tryz.prog 188 #[.int .u8 (c.toNat : Int)] w fun x w' => x = .returned (.int .i64 (dgV c)) ∧ w = w' := by
  have hlt := c.toNat_lt
  obtain ⟨v, hv⟩ : ∃ v, v = dgV c := ⟨_, rfl⟩
  rw [← hv]
  have hd : v = if 48 ≤ c.toNat ∧ c.toNat ≤ 57 then (c.toNat : Int) - 48 else if 97 ≤ c.toNat ∧ c.toNat ≤ 102 then (c.toNat : Int) - 87 else if 65 ≤ c.toNat ∧ c.toNat ≤ 70 then (c.toNat : Int) - 55 else -1 := by
    rw [hv]
    unfold dgV hexd
    by_cases h1 : 48 ≤ c.toNat ∧ c.toNat ≤ 57
    · rw [if_pos h1, if_pos h1]; simp only; omega
    · rw [if_neg h1, if_neg h1]
      by_cases h2 : 97 ≤ c.toNat ∧ c.toNat ≤ 102
      · rw [if_pos h2, if_pos h2]; simp only; omega
      · rw [if_neg h2, if_neg h2]
        by_cases h3 : 65 ≤ c.toNat ∧ c.toNat ≤ 70
        · rw [if_pos h3, if_pos h3]; simp only; omega
        · rw [if_neg h3, if_neg h3]
  clear hv
  generalize c.toNat = n at hd hlt
  rcases (by omega : n < 48 ∨ (48 ≤ n ∧ n ≤ 57) ∨ (57 < n ∧ n < 65) ∨ (65 ≤ n ∧ n ≤ 70) ∨ (70 < n ∧ n < 97) ∨ (97 ≤ n ∧ n ≤ 102) ∨ 102 < n) with h | ⟨h, h'⟩ | ⟨h, h'⟩ | ⟨h, h'⟩ | ⟨h, h'⟩ | ⟨h, h'⟩ | h
  · have HV : Hid (v = -1) := Lib.hid (by rw [hd, if_neg (by omega), if_neg (by omega), if_neg (by omega)])
    have l1 : ((48 : Int) ≤ (n : Int)) = False := eq_false (by omega)
    have l2 : ((97 : Int) ≤ (n : Int)) = False := eq_false (by omega)
    have l3 : ((65 : Int) ≤ (n : Int)) = False := eq_false (by omega)
    clear hd
    go_enter Tryz.func188, Tryz.ntmps188
    go_wp2
    go_ret
    exact ⟨by rw [HV.out]; rfl, rfl⟩
  · have HV : Hid (v = (n : Int) - 48) := Lib.hid (by rw [hd, if_pos ⟨h, h'⟩])
    have l1 : ((48 : Int) ≤ (n : Int)) = True := eq_true (by omega)
    have l2 : ((n : Int) ≤ (57 : Int)) = True := eq_true (by omega)
    clear hd
    go_enter Tryz.func188, Tryz.ntmps188
    go_wp2
    go_ret
    exact ⟨by rw [HV.out]; rfl, rfl⟩
  · have HV : Hid (v = -1) := Lib.hid (by rw [hd, if_neg (by omega), if_neg (by omega), if_neg (by omega)])
    have l1 : ((48 : Int) ≤ (n : Int)) = True := eq_true (by omega)
    have l1' : ((n : Int) ≤ (57 : Int)) = False := eq_false (by omega)
    have l2 : ((97 : Int) ≤ (n : Int)) = False := eq_false (by omega)
    have l3 : ((65 : Int) ≤ (n : Int)) = False := eq_false (by omega)
    clear hd
    go_enter Tryz.func188, Tryz.ntmps188
    go_wp2
    go_ret
    exact ⟨by rw [HV.out]; rfl, rfl⟩
  · have HV : Hid (v = (n : Int) - 55) := Lib.hid (by rw [hd, if_neg (by omega), if_neg (by omega), if_pos ⟨h, h'⟩])
    have l1 : ((48 : Int) ≤ (n : Int)) = True := eq_true (by omega)
    have l1' : ((n : Int) ≤ (57 : Int)) = False := eq_false (by omega)
    have l2 : ((97 : Int) ≤ (n : Int)) = False := eq_false (by omega)
    have l3 : ((65 : Int) ≤ (n : Int)) = True := eq_true (by omega)
    have l4 : ((n : Int) ≤ (70 : Int)) = True := eq_true (by omega)
    clear hd
    go_enter Tryz.func188, Tryz.ntmps188
    go_wp2
    go_ret
    exact ⟨by rw [HV.out, show (n : Int) - 55 = (n : Int) - 65 + 10 by omega]; rfl, rfl⟩
  · have HV : Hid (v = -1) := Lib.hid (by rw [hd, if_neg (by omega), if_neg (by omega), if_neg (by omega)])
    have l1 : ((48 : Int) ≤ (n : Int)) = True := eq_true (by omega)
    have l1' : ((n : Int) ≤ (57 : Int)) = False := eq_false (by omega)
    have l2 : ((97 : Int) ≤ (n : Int)) = False := eq_false (by omega)
    have l3 : ((65 : Int) ≤ (n : Int)) = True := eq_true (by omega)
    have l4 : ((n : Int) ≤ (70 : Int)) = False := eq_false (by omega)
    clear hd
    go_enter Tryz.func188, Tryz.ntmps188
    go_wp2
    go_ret
    exact ⟨by rw [HV.out]; rfl, rfl⟩
  · have HV : Hid (v = (n : Int) - 87) := Lib.hid (by rw [hd, if_neg (by omega), if_pos ⟨h, h'⟩])
    have l1 : ((48 : Int) ≤ (n : Int)) = True := eq_true (by omega)
    have l1' : ((n : Int) ≤ (57 : Int)) = False := eq_false (by omega)
    have l2 : ((97 : Int) ≤ (n : Int)) = True := eq_true (by omega)
    have l3 : ((n : Int) ≤ (102 : Int)) = True := eq_true (by omega)
    clear hd
    go_enter Tryz.func188, Tryz.ntmps188
    go_wp2
    go_ret
    exact ⟨by rw [HV.out, show (n : Int) - 87 = (n : Int) - 97 + 10 by omega]; rfl, rfl⟩
  · have HV : Hid (v = -1) := Lib.hid (by rw [hd, if_neg (by omega), if_neg (by omega), if_neg (by omega)])
    have l1 : ((48 : Int) ≤ (n : Int)) = True := eq_true (by omega)
    have l1' : ((n : Int) ≤ (57 : Int)) = False := eq_false (by omega)
    have l2 : ((97 : Int) ≤ (n : Int)) = True := eq_true (by omega)
    have l2' : ((n : Int) ≤ (102 : Int)) = False := eq_false (by omega)
    have l3 : ((65 : Int) ≤ (n : Int)) = True := eq_true (by omega)
    have l4 : ((n : Int) ≤ (70 : Int)) = False := eq_false (by omega)
    clear hd
    go_enter Tryz.func188, Tryz.ntmps188
    go_wp2
    go_ret
    exact ⟨by rw [HV.out]; rfl, rfl⟩
/-- What unit answers. -/
def unV : U → Int
  | .bad => -1
  | .short => -2
  | .val v => v
set_option maxHeartbeats 4000000 in
set_option maxRecDepth 100000 in
theorem unitRR_any (rb : Nat) (s : List UInt8) (e wh j i : Nat) (w : World) (hr : Rb w rb s j e wh) (hs : s.length ≤ 4398046511104) (hi : i ≤ 4398046511104) :
    Calls Tryz.prog 164 #[.pointer (some ⟨rb, 0, none⟩), .int .i64 (i : Nat)] w fun x w' => x = .returned (.int .i64 (unV (unit (s.drop i)))) ∧ w = w' := by
  obtain ⟨c0, _, _, _⟩ := hr.cells
  clear hr
  go_enter Tryz.func164, Tryz.ntmps164
  go_wp2_with fail
  go_loopw [5, 6] (fun v k wr => ∃ a q : Nat, wr = w ∧ q ≤ 6 ∧ k = .int .i64 (q : Nat) ∧ v = .int .i64 (a : Nat) ∧ a < 16777216 ∧ Hid (unit (s.drop i) = unitR q a (s.drop (i + q))) ∧ Hid ((q ≤ 2 → a = 0) ∧ (q = 3 → a < 16) ∧ (q = 4 → a < 256) ∧ (q = 5 → a < 4096) ∧ a < 65536)) (fun _ k _ => 6 - (intOf k).toNat)
  case atStart => exact ⟨0, 0, rfl, by omega, rfl, rfl, by omega, Lib.hid rfl, Lib.hid ⟨fun _ => rfl, by omega, by omega, by omega, by omega⟩⟩
  case round =>
    obtain ⟨a, q, hwr, hq, rfl, rfl, ha, HU, HA⟩ := hrel
    subst hwr
    by_cases h6 : q < 6
    · by_cases hlt : i + q < s.length
      · have l1 : ((s.length : Int) ≤ (i : Int) + (q : Int)) = False := eq_false (by omega)
        have hidx : ∀ w, (Instr.index 9 (.string ⟨s.toArray⟩) (.int .i64 ((i : Int) + (q : Int)))).run Tryz.prog w = .ok (.int .u8 ((s.getD (i + q) 0).toNat : Int)) w := fun w => by
          have := run_index_list Tryz.underlying9 s (i + q) hlt w
          push_cast at this
          exact this
        have HDG := Lib.hid (drop_get hlt)
        generalize s.getD (i + q) 0 = c at hidx HDG
        by_cases hq0 : q = 0
        · have e0 : ((q : Int) == 0) = true := by rw [beq_iff_eq]; omega
          have e1 : ((q : Int) == 1) = false := by rw [beq_eq_false_iff_ne]; omega
          have e2 : ((1 : Int) < (q : Int)) = False := eq_false (by omega)
          have e2' : (1 < q) = False := eq_false (by omega)
          have HA0 : Hid (a = 0) := Lib.hid (HA.out.1 (by omega))
          have HQ0 := Lib.hid hq0
          by_cases hc : c = 92
          · have q1 : ((c.toNat : Int) == 92) = true := b8t hc
            have q2 : ((c.toNat : Int) != 92) = false := by unfold bne; rw [q1]; rfl
            have HU1 : Hid (unit (s.drop i) = unitR (q + 1) a (s.drop (i + (q + 1)))) := Lib.hid (by rw [HU.out, HDG.out, hq0, unitR0, if_pos hc, HA0.out])
            have HA1 : Hid ((q + 1 ≤ 2 → a = 0) ∧ (q + 1 = 3 → a < 16) ∧ (q + 1 = 4 → a < 256) ∧ (q + 1 = 5 → a < 4096) ∧ a < 65536) := Lib.hid ⟨fun _ => HA0.out, by omega, by omega, by omega, HA.out.2.2.2.2⟩
            clear hc hq0
            go_wp2_with fail
            go_roundw
            case rel => exact ⟨a, q + 1, trivial, by omega, by go_num, rfl, ha, HU1, HA1⟩
            case measure => simp [intOf]; omega
          · have q1 : ((c.toNat : Int) == 92) = false := b8f hc
            have q2 : ((c.toNat : Int) != 92) = true := by unfold bne; rw [q1]; rfl
            have HV : Hid (unV (unit (s.drop i)) = -1) := Lib.hid (by rw [HU.out, HDG.out, hq0, unitR0, if_neg hc]; rfl)
            clear hc hq0
            go_wp2
            go_ret
            exact ⟨by rw [HV.out]; rfl, rfl⟩
        · by_cases hq1 : q = 1
          · have e0 : ((q : Int) == 0) = false := by rw [beq_eq_false_iff_ne]; omega
            have e1 : ((q : Int) == 1) = true := by rw [beq_iff_eq]; omega
            have e2 : ((1 : Int) < (q : Int)) = False := eq_false (by omega)
            have e2' : (1 < q) = False := eq_false (by omega)
            have HA0 : Hid (a = 0) := Lib.hid (HA.out.1 (by omega))
            by_cases hc : c = 117
            · have q1 : ((c.toNat : Int) == 117) = true := b8t hc
              have q2 : ((c.toNat : Int) != 117) = false := by unfold bne; rw [q1]; rfl
              have HU1 : Hid (unit (s.drop i) = unitR (q + 1) a (s.drop (i + (q + 1)))) := Lib.hid (by rw [HU.out, HDG.out, hq1, unitR1, if_pos hc, HA0.out])
              have HA1 : Hid ((q + 1 ≤ 2 → a = 0) ∧ (q + 1 = 3 → a < 16) ∧ (q + 1 = 4 → a < 256) ∧ (q + 1 = 5 → a < 4096) ∧ a < 65536) := Lib.hid ⟨fun _ => HA0.out, by omega, by omega, by omega, HA.out.2.2.2.2⟩
              clear hc hq1 hq0
              go_wp2_with fail
              go_roundw
              case rel => exact ⟨a, q + 1, trivial, by omega, by go_num, rfl, ha, HU1, HA1⟩
              case measure => simp [intOf]; omega
            · have q1 : ((c.toNat : Int) == 117) = false := b8f hc
              have q2 : ((c.toNat : Int) != 117) = true := by unfold bne; rw [q1]; rfl
              have HV : Hid (unV (unit (s.drop i)) = -1) := Lib.hid (by rw [HU.out, HDG.out, hq1, unitR1, if_neg hc]; rfl)
              clear hc hq1 hq0
              go_wp2
              go_ret
              exact ⟨by rw [HV.out]; rfl, rfl⟩
          · have e0 : ((q : Int) == 0) = false := by rw [beq_eq_false_iff_ne]; omega
            have e1 : ((q : Int) == 1) = false := by rw [beq_eq_false_iff_ne]; omega
            have e2 : ((1 : Int) < (q : Int)) = True := eq_true (by omega)
            have e2' : (1 < q) = True := eq_true (by omega)
            have hq2 : 2 ≤ q := by omega
            have HUN := Lib.hid (unitR2 hq2 h6 a c (s.drop (i + q + 1)))
            have HDX := Lib.hid (digitR_any c)
            cases hx : hexd c with
            | none =>
              have HV : Hid (unV (unit (s.drop i)) = -1) := Lib.hid (by rw [HU.out, HDG.out, HUN.out, hx]; rfl)
              have hdv : dgV c = -1 := by unfold dgV; rw [hx]
              rw [hdv] at HDX
              clear hx hdv hq0 hq1
              go_wp2_with fail
              refine (HDX.out _).mono ?_
              rintro x wx ⟨rfl, rfl⟩
              go_wp2
              go_ret
              exact ⟨by rw [HV.out]; rfl, rfl⟩
            | some d =>
              have hd := hexd_lt hx
              have HU1 : Hid (unit (s.drop i) = unitR (q + 1) (16 * a + d) (s.drop (i + (q + 1)))) := Lib.hid (by rw [HU.out, HDG.out, HUN.out, hx]; rfl)
              have HA1 : Hid ((q + 1 ≤ 2 → 16 * a + d = 0) ∧ (q + 1 = 3 → 16 * a + d < 16) ∧ (q + 1 = 4 → 16 * a + d < 256) ∧ (q + 1 = 5 → 16 * a + d < 4096) ∧ 16 * a + d < 65536) := Lib.hid (by
                have := HA.out
                refine ⟨by omega, fun h => ?_, fun h => ?_, fun h => ?_, ?_⟩
                · have := this.1 (by omega); omega
                · have := this.2.1 (by omega); omega
                · have := this.2.2.1 (by omega); omega
                · rcases (by omega : q = 2 ∨ q = 3 ∨ q = 4 ∨ q = 5) with h | h | h | h
                  · have := this.1 (by omega); omega
                  · have := this.2.1 (by omega); omega
                  · have := this.2.2.1 (by omega); omega
                  · have := this.2.2.2.1 (by omega); omega)
              have hdv : dgV c = (d : Int) := by unfold dgV; rw [hx]
              have ha2 : 16 * a + d < 16777216 := by have := HA1.out.2.2.2.2; omega
              rw [hdv] at HDX
              clear hx hdv hq0 hq1
              have l3 : ((d : Int) < 0) = False := eq_false (by omega)
              go_wp2_with fail
              refine (HDX.out _).mono ?_
              rintro x wx ⟨rfl, rfl⟩
              go_wp2_with fail
              refine (HDX.out _).mono ?_
              rintro x wx ⟨rfl, rfl⟩
              go_wp2_with fail
              go_roundw
              case rel => exact ⟨16 * a + d, q + 1, trivial, by omega, by go_num, by go_num, ha2, HU1, HA1⟩
              case measure => simp [intOf]; omega
      · have l1 : ((s.length : Int) ≤ (i : Int) + (q : Int)) = True := eq_true (by omega)
        have HV : Hid (unV (unit (s.drop i)) = -2) := Lib.hid (by rw [HU.out, List.drop_eq_nil_of_le (by omega), unitRn h6]; rfl)
        go_wp2
        go_ret
        exact ⟨by rw [HV.out]; rfl, rfl⟩
    · obtain rfl : q = 6 := by omega
      have HV : Hid (unV (unit (s.drop i)) = (a : Int)) := Lib.hid (by rw [HU.out, unitR6]; rfl)
      go_wp2
      go_ret
      exact ⟨by rw [HV.out]; rfl, rfl⟩
end Js
end Go.Proofs.YtlfeddgpfaigkaaGreatDoor
