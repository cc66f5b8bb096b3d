/-
  The walk of package json's quote at this seat's translation: a text's form behind what a builder holds.
-/
import Derived.Test.YtlfeddgpfaigkaaGreatDoorJsPl
import Derived.Test.YtlfeddgpfaigkaaGreatDoorJsAx
import Derived.Test.YtlfeddgpfaigkaaGreatDoorBld
namespace Go.Proofs.YtlfeddgpfaigkaaGreatDoor
open Go.RowKit
namespace Js
theorem dig_at (n : Nat) (h : n < 16) : (⟨#[48, 49, 50, 51, 52, 53, 54, 55, 56, 57, 97, 98, 99, 100, 101, 102]⟩ : ByteArray)[n]'(h) = hexc n := by
  have key : ∀ m : Fin 16, (⟨#[48, 49, 50, 51, 52, 53, 54, 55, 56, 57, 97, 98, 99, 100, 101, 102]⟩ : ByteArray)[m.val]'(m.isLt) = hexc m.val := by decide
  exact key ⟨n, h⟩
-- <
set_option maxHeartbeats 4000000 in
set_option maxRecDepth 100000 in
theorem quote_any (b : Nat) (l s : List UInt8) (w : World) (hb : Bd b l w) (hlen : l.length + 6 * s.length + 2 ≤ 140737488355328) :
    Calls Tryz.prog 93 #[.pointer (some ⟨b, 0, none⟩), .string ⟨s.toArray⟩] w fun x w' => x = .returned (.tuple #[]) ∧ Bd b (l ++ quoted s) w' ∧ KeepB b w w' := by
  have HB := Lib.hid hb
  clear hb
  go_enter Tryz.func93, Tryz.ntmps93
  go_wp2_with fail
  refine (writeByte_b b l 34 _ HB.out (by omega)).mono ?_
  rintro e1 w1 ⟨rfl, hB1, hk1⟩
  have HB1 := Lib.hid hB1
  have HK1 := Lib.hid hk1
  clear hB1 hk1 HB
  go_wp2_with fail
  go_loopw [10] (fun i wr => ∃ k : Nat, k ≤ s.length ∧ i = .int .i64 k ∧ Hid (Bd b (l ++ 34 :: (s.take k).flatMap qc) wr) ∧ Hid (KeepB b w wr)) (fun i _ => s.length - (intOf i).toNat)
  case atStart => exact ⟨0, by omega, rfl, Lib.hid (by simpa using HB1.out), HK1⟩
  case round =>
    clear HB1 HK1
    obtain ⟨k, hk, rfl, HB, HK⟩ := hrel
    by_cases hlt : k < s.length
    · have hidx := run_index_list Tryz.underlying9 s k hlt
      have HX : Hid (s.take (k + 1) = s.take k ++ [s.getD k 0]) := Lib.hid (by rw [List.take_succ_eq_append_getElem hlt]; simp [List.getD, List.getElem?_eq_getElem hlt])
      have hfl : (l ++ 34 :: (s.take k).flatMap qc).length ≤ l.length + 6 * k + 1 := by
        have := flat_len (s.take k)
        rw [List.length_take] at this
        rw [List.length_append, List.length_cons]
        omega
      generalize s.getD k 0 = c at hidx HX
      have HE : Hid (∀ wx, Bd b ((l ++ 34 :: (s.take k).flatMap qc) ++ qc c) wx → Bd b (l ++ 34 :: (s.take (k + 1)).flatMap qc) wx) := Lib.hid (fun wx h => by
        rw [HX.out, List.flatMap_append]
        simpa using h)
      generalize l ++ 34 :: (s.take k).flatMap qc = m at HB hfl HE
      by_cases h34 : c = 34
      · have q1 : ((c.toNat : Int) == 34) = true := b8t h34
        have HQ : Hid (qc c = [92, c]) := Lib.hid (by unfold qc; rw [if_pos (.inl h34)])
        clear h34
        go_wp2_with fail
        refine (writeByte_b b m 92 _ HB.out (by omega)).mono ?_
        rintro e2 w2 ⟨rfl, hB2, hk2⟩
        go_wp2_with fail
        refine (writeByte_b b _ c _ hB2 (by rw [List.length_append]; simp; omega)).mono ?_
        rintro e3 w3 ⟨rfl, hB3, hk3⟩
        have HB3 := Lib.hid (HE.out w3 (by rw [HQ.out]; simpa using hB3))
        have HK3 := Lib.hid (HK.out.trans (hk2.trans hk3))
        clear hB2 hk2 hB3 hk3
        go_wp2
        go_roundw
        case rel => exact ⟨k + 1, by omega, by go_num, HB3, HK3⟩
        case measure => simp [intOf]; omega
      · have q1 : ((c.toNat : Int) == 34) = false := b8f h34
        by_cases h92 : c = 92
        · have q2 : ((c.toNat : Int) == 92) = true := b8t h92
          have HQ : Hid (qc c = [92, c]) := Lib.hid (by unfold qc; rw [if_pos (.inr h92)])
          clear h34 h92
          go_wp2_with fail
          refine (writeByte_b b m 92 _ HB.out (by omega)).mono ?_
          rintro e2 w2 ⟨rfl, hB2, hk2⟩
          go_wp2_with fail
          refine (writeByte_b b _ c _ hB2 (by rw [List.length_append]; simp; omega)).mono ?_
          rintro e3 w3 ⟨rfl, hB3, hk3⟩
          have HB3 := Lib.hid (HE.out w3 (by rw [HQ.out]; simpa using hB3))
          have HK3 := Lib.hid (HK.out.trans (hk2.trans hk3))
          clear hB2 hk2 hB3 hk3
          go_wp2
          go_roundw
          case rel => exact ⟨k + 1, by omega, by go_num, HB3, HK3⟩
          case measure => simp [intOf]; omega
        · have q2 : ((c.toNat : Int) == 92) = false := b8f h92
          by_cases h32 : c.toNat < 32
          · have q3 : ((c.toNat : Int) < 32) = True := eq_true (by omega)
            have HQ : Hid (qc c = [92, 117, 48, 48, hexc (c.toNat / 16), hexc (c.toNat % 16)]) := Lib.hid (by unfold qc; rw [if_neg (by rintro (h | h); exact h34 h; exact h92 h), if_pos h32])
            have hx1 : c.toNat / 16 < 16 := by omega
            have hx2 : c.toNat % 16 < 16 := by omega
            have hx3 : c.toNat < 256 := by omega
            clear h34 h92
            go_wp2_with fail
            refine (writeString_b b m _ _ HB.out (by simp [ByteArray.size]; omega)).mono ?_
            rintro e2 w2 ⟨rfl, hB2, hk2⟩
            go_wp2_with fail
            rw [dig_at _ hx1]
            refine (writeByte_b b _ _ _ hB2 (by rw [List.length_append]; simp; omega)).mono ?_
            rintro e3 w3 ⟨rfl, hB3, hk3⟩
            go_wp2_with fail
            rw [dig_at _ hx2]
            refine (writeByte_b b _ _ _ hB3 (by rw [List.length_append, List.length_append]; simp; omega)).mono ?_
            rintro e4 w4 ⟨rfl, hB4, hk4⟩
            have HB3 := Lib.hid (HE.out w4 (by rw [HQ.out]; simpa using hB4))
            have HK3 := Lib.hid (HK.out.trans (hk2.trans (hk3.trans hk4)))
            clear hB2 hk2 hB3 hk3 hB4 hk4
            go_wp2
            go_roundw
            case rel => exact ⟨k + 1, by omega, by go_num, HB3, HK3⟩
            case measure => simp [intOf]; omega
          · have q3 : ((c.toNat : Int) < 32) = False := eq_false (by omega)
            have HQ : Hid (qc c = [c]) := Lib.hid (by unfold qc; rw [if_neg (by rintro (h | h); exact h34 h; exact h92 h), if_neg h32])
            clear h34 h92 h32
            go_wp2_with fail
            refine (writeByte_b b m c _ HB.out (by omega)).mono ?_
            rintro e3 w3 ⟨rfl, hB3, hk3⟩
            have HB3 := Lib.hid (HE.out w3 (by rw [HQ.out]; exact hB3))
            have HK3 := Lib.hid (HK.out.trans hk3)
            clear hB3 hk3
            go_wp2
            go_roundw
            case rel => exact ⟨k + 1, by omega, by go_num, HB3, HK3⟩
            case measure => simp [intOf]; omega
    · have hkL : k = s.length := by omega
      subst hkL
      have hfl : (l ++ 34 :: (s.take s.length).flatMap qc).length ≤ l.length + 6 * s.length + 1 := by
        have := flat_len (s.take s.length)
        rw [List.length_take] at this
        rw [List.length_append, List.length_cons]
        omega
      go_wp2_with fail
      refine (writeByte_b b _ 34 _ HB.out (by omega)).mono ?_
      rintro e3 w3 ⟨rfl, hB3, hk3⟩
      have HB3 : Hid (Bd b (l ++ quoted s) w3) := Lib.hid (by
        have h := hB3
        rw [List.take_length] at h
        unfold quoted
        simpa using h)
      have HK3 := Lib.hid (HK.out.trans hk3)
      clear hB3 hk3
      go_wp2
      go_end0
      exact ⟨rfl, HB3.out, HK3.out⟩
-- >
end Js
end Go.Proofs.YtlfeddgpfaigkaaGreatDoor
