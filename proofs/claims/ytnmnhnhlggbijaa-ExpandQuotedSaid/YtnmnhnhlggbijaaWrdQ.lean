/-
  The walk of words.Quote at this seat's translation: a text, in quotes where it wants them.
-/
import Derived.Test.YtnmnhnhlggbijaaWrdW
import Derived.Test.YtnmnhnhlggbijaaBld
import Derived.Test.YtnmnhnhlggbijaaLays
import Derived.Shelf.Small.Strs
import Derived.WalkSmall
namespace Go.Proofs.Ytnmnhnhlggbijaa
open Go.RowKit Wrd

/-- The bytes that need no quotes, beside letters and digits. -/
def bareL : List UInt8 := [95, 45, 46, 47, 58, 44, 43, 61, 64, 37]
theorem plain_in (c : UInt8) : ((97 ≤ c.toNat ∧ c.toNat ≤ 122) ∨ (65 ≤ c.toNat ∧ c.toNat ≤ 90) ∨ (48 ≤ c.toNat ∧ c.toNat ≤ 57)) → plainB c = true :=
  all8 (P := fun c => ((97 ≤ c.toNat ∧ c.toNat ≤ 122) ∨ (65 ≤ c.toNat ∧ c.toNat ≤ 90) ∨ (48 ≤ c.toNat ∧ c.toNat ≤ 57)) → plainB c = true) (by decide +kernel) c
theorem plain_out (c : UInt8) : ¬ ((97 ≤ c.toNat ∧ c.toNat ≤ 122) ∨ (65 ≤ c.toNat ∧ c.toNat ≤ 90) ∨ (48 ≤ c.toNat ∧ c.toNat ≤ 57)) → plainB c = decide (0 ≤ Lib.indexByte bareL c) :=
  all8 (P := fun c => ¬ ((97 ≤ c.toNat ∧ c.toNat ≤ 122) ∨ (65 ≤ c.toNat ∧ c.toNat ≤ 90) ∨ (48 ≤ c.toNat ∧ c.toNat ≤ 57)) → plainB c = decide (0 ≤ Lib.indexByte bareL c)) (by decide +kernel) c
theorem indexByte_any (c : UInt8) (w : World) : Calls Try.prog 25 #[.string ⟨#[95, 45, 46, 47, 58, 44, 43, 61, 64, 37]⟩, .int .u8 c.toNat] w fun e w' => e = .returned (.int .i64 (Lib.indexByte bareL c)) ∧ w = w' := by
  refine (Any.strings_IndexByte lays137 ⟨#[95, 45, 46, 47, 58, 44, 43, 61, 64, 37]⟩ c.toNat w).mono fun e w' ⟨h, hw⟩ => ⟨?_, hw.symm⟩
  rw [h]
  simp [bareL]

set_option maxHeartbeats 4000000 in
set_option maxRecDepth 100000 in
theorem Quote_any (s : List UInt8) (hs : s.length ≤ 70368744177000) (c0 : UInt8) (w : World) :
    Calls Try.prog 16 #[.string ⟨s.toArray⟩, .int .u8 c0.toNat] w fun e w' => e = .returned (.string ⟨(quote s c0).toArray⟩) ∧ Below w.heap.size w w' := by
  go_enter Try.func16, Try.ntmps16
  go_wp2_with fail
  refine (of_any c0 _).mono ?_
  rintro e w' ⟨rfl, rfl⟩
  generalize he : escOf c0 = e
  have HE := Lib.hid he
  clear he
  go_wp2_with fail
  refine (writeByte_b w.heap.size [] 34 _ (Bd.fresh w) (by simp)).mono ?_
  rintro e1 w1 ⟨rfl, hB1, hk1⟩
  have HB1 := Lib.hid hB1
  have HW1 : Hid (Below w.heap.size w w1) := Lib.hid (((Below.refl w.heap.size w).alloc (Nat.le_refl _) _).trans hk1.below)
  clear hB1 hk1
  go_wp2_with fail
  go_loopw [5, 17] (fun b i wr => ∃ k : Nat, k ≤ s.length ∧ b = .bool (!s.isEmpty && (s.take k).all plainB) ∧ i = .int .i64 k ∧ Hid (Bd w.heap.size (34 :: (s.take k).flatMap (esc1 e)) wr) ∧ Hid (Below w.heap.size w wr)) (fun _ i _ => s.length - (intOf i).toNat)
  case atStart => exact ⟨0, by omega, by simp, rfl, Lib.hid (by simpa using HB1.out), HW1⟩
  case round =>
    clear HB1 HW1
    obtain ⟨k, hk, rfl, rfl, HB, HW⟩ := hrel
    by_cases hlt : k < s.length
    · have hidx := run_index_list Try.underlying9 s k hlt
      have HX : Hid (s.take (k + 1) = s.take k ++ [s.getD k 0]) := Lib.hid (by rw [List.take_succ_eq_append_getElem hlt]; simp [List.getD, List.getElem?_eq_getElem hlt])
      have hfl : ((s.take k).flatMap (esc1 e)).length ≤ 2 * k := by
        have := esc_len e (s.take k)
        rw [List.length_take] at this
        omega
      generalize s.getD k 0 = c at hidx HX
      generalize hb0 : (!s.isEmpty && (s.take k).all plainB) = b0
      have HB0 := Lib.hid hb0
      clear hb0
      go_upto_region 9 with fail
      go_cut [33] (fun s33 wx => s33 = .bool (needs e c) ∧ wr = wx)
      case first =>
        by_cases h1 : c.toNat = 34
        · have HD := Lib.hid (show needs e c = true from decide_eq_true (.inl (UInt8.toNat_inj.1 h1)))
          have q1 : ((c.toNat : Int) == 34) = true := by rw [beq_iff_eq]; omega
          clear h1
          go_wp2
          go_meet
          exact ⟨by rw [HD.out], rfl⟩
        · have q1 : ((c.toNat : Int) == 34) = false := by rw [beq_eq_false_iff_ne]; omega
          by_cases h2 : c.toNat = 36
          · have HD := Lib.hid (show needs e c = true from decide_eq_true (.inr (.inl (UInt8.toNat_inj.1 h2))))
            have q2 : ((c.toNat : Int) == 36) = true := by rw [beq_iff_eq]; omega
            clear h1 h2
            go_wp2
            go_meet
            exact ⟨by rw [HD.out], rfl⟩
          · have q2 : ((c.toNat : Int) == 36) = false := by rw [beq_eq_false_iff_ne]; omega
            by_cases h3 : c.toNat = e.toNat
            · have HD := Lib.hid (show needs e c = true from decide_eq_true (.inr (.inr (UInt8.toNat_inj.1 h3))))
              have q3 : ((c.toNat : Int) == (e.toNat : Int)) = true := by rw [beq_iff_eq]; omega
              clear h1 h2 h3
              go_wp2
              go_meet
              exact ⟨by rw [HD.out], rfl⟩
            · have HD := Lib.hid (show needs e c = false from decide_eq_false (by
                rintro (h | h | h)
                · exact h1 (by rw [h]; rfl)
                · exact h2 (by rw [h]; rfl)
                · exact h3 (by rw [h])))
              have q3 : ((c.toNat : Int) == (e.toNat : Int)) = false := by rw [beq_eq_false_iff_ne]; omega
              clear h1 h2 h3
              go_wp2
              go_meet
              exact ⟨by rw [HD.out], rfl⟩
      case rest =>
        obtain ⟨rfl, rfl⟩ := hcut
        go_upto_if 33 with fail
        go_cut [33] (fun s33 wx => s33 = .bool (needs e c) ∧ Hid (Bd w.heap.size (34 :: (s.take k).flatMap (esc1 e) ++ (esc1 e c).dropLast) wx) ∧ Hid (Below w.heap.size w wx))
        case first =>
          cases hd : needs e c
          · have HD := Lib.hid (of_decide_eq_false hd)
            have HN := Lib.hid hd
            clear hd
            go_wp2
            go_meet
            exact ⟨by rw [HN.out], Lib.hid (by rw [esc1_no HD.out]; simpa using HB.out), HW⟩
          · have HD := Lib.hid (of_decide_eq_true hd)
            have HN := Lib.hid hd
            clear hd
            go_wp2_with fail
            refine (writeByte_b _ _ e _ HB.out (by rw [List.length_cons]; omega)).mono ?_
            rintro e2 w2 ⟨rfl, hB2, hk2⟩
            have HB2 := Lib.hid hB2
            have HW2 : Hid (Below w.heap.size w w2) := Lib.hid (HW.out.trans hk2.below)
            clear hB2 hk2
            go_wp2
            go_meet
            exact ⟨by rw [HN.out], Lib.hid (by rw [esc1_yes HD.out]; simpa using HB2.out), HW2⟩
        case rest =>
          obtain ⟨rfl, HB2, HW2⟩ := hcut
          have hdl : (esc1 e c).dropLast.length ≤ 1 := by unfold esc1; split <;> simp
          have HL : Hid (esc1 e c = (esc1 e c).dropLast ++ [c]) := Lib.hid (by unfold esc1; split <;> rfl)
          go_wp2_with fail
          refine (writeByte_b _ _ c _ HB2.out (by rw [List.length_append, List.length_cons]; omega)).mono ?_
          rintro e3 w3 ⟨rfl, hB3, hk3⟩
          have HB3 : Hid (Bd w.heap.size (34 :: (s.take (k + 1)).flatMap (esc1 e)) w3) := Lib.hid (by
            rw [HX.out, List.flatMap_append]
            have := hB3
            rw [List.append_assoc, ← HL.out] at this
            simpa using this)
          have HW3 : Hid (Below w.heap.size w w3) := Lib.hid (HW2.out.trans hk3.below)
          clear hB3 hk3 HB2 HW2 HB HW
          go_upto_region 12 with fail
          go_cut [9] (fun s9 wx => s9 = .bool (plainB c) ∧ w3 = wx)
          case first =>
            rcases (by omega : c.toNat < 48 ∨ (48 ≤ c.toNat ∧ c.toNat ≤ 57) ∨ (57 < c.toNat ∧ c.toNat < 65) ∨ (65 ≤ c.toNat ∧ c.toNat ≤ 90) ∨ (90 < c.toNat ∧ c.toNat < 97) ∨ (97 ≤ c.toNat ∧ c.toNat ≤ 122) ∨ 122 < c.toNat) with h | ⟨h1, h2⟩ | ⟨h1, h2⟩ | ⟨h1, h2⟩ | ⟨h1, h2⟩ | ⟨h1, h2⟩ | h
            · have HP := Lib.hid (plain_out c (by omega))
              go_wp2_with (go_at_call 25; refine (indexByte_any c _).mono ?_; rintro e4 w4 ⟨rfl, rfl⟩)
              go_meet
              exact ⟨by first | (rw [HP.out]; done) | (rw [HP.out]; congr 1; rw [Bool.eq_iff_iff]; simp only [Bool.or_eq_true, decide_eq_true_eq]; omega), rfl⟩
            · have HP := Lib.hid (plain_in c (by omega))
              go_wp2
              go_meet
              exact ⟨by first | (rw [HP.out]; done) | (rw [HP.out]; congr 1; rw [Bool.eq_iff_iff]; simp only [Bool.or_eq_true, decide_eq_true_eq]; omega), rfl⟩
            · have HP := Lib.hid (plain_out c (by omega))
              go_wp2_with (go_at_call 25; refine (indexByte_any c _).mono ?_; rintro e4 w4 ⟨rfl, rfl⟩)
              go_meet
              exact ⟨by first | (rw [HP.out]; done) | (rw [HP.out]; congr 1; rw [Bool.eq_iff_iff]; simp only [Bool.or_eq_true, decide_eq_true_eq]; omega), rfl⟩
            · have HP := Lib.hid (plain_in c (by omega))
              go_wp2
              go_meet
              exact ⟨by first | (rw [HP.out]; done) | (rw [HP.out]; congr 1; rw [Bool.eq_iff_iff]; simp only [Bool.or_eq_true, decide_eq_true_eq]; omega), rfl⟩
            · have HP := Lib.hid (plain_out c (by omega))
              go_wp2_with (go_at_call 25; refine (indexByte_any c _).mono ?_; rintro e4 w4 ⟨rfl, rfl⟩)
              go_meet
              exact ⟨by first | (rw [HP.out]; done) | (rw [HP.out]; congr 1; rw [Bool.eq_iff_iff]; simp only [Bool.or_eq_true, decide_eq_true_eq]; omega), rfl⟩
            · have HP := Lib.hid (plain_in c (by omega))
              go_wp2
              go_meet
              exact ⟨by first | (rw [HP.out]; done) | (rw [HP.out]; congr 1; rw [Bool.eq_iff_iff]; simp only [Bool.or_eq_true, decide_eq_true_eq]; omega), rfl⟩
            · have HP := Lib.hid (plain_out c (by omega))
              go_wp2_with (go_at_call 25; refine (indexByte_any c _).mono ?_; rintro e4 w4 ⟨rfl, rfl⟩)
              go_meet
              exact ⟨by first | (rw [HP.out]; done) | (rw [HP.out]; congr 1; rw [Bool.eq_iff_iff]; simp only [Bool.or_eq_true, decide_eq_true_eq]; omega), rfl⟩
          case rest =>
            obtain ⟨rfl, rfl⟩ := hcut
            have HP : Hid ((!s.isEmpty && (s.take (k + 1)).all plainB) = (b0 && plainB c)) := Lib.hid (by rw [HX.out, List.all_append, ← Bool.and_assoc, HB0.out]; simp)
            go_wp2
            all_goals
              go_roundw
              case rel => exact ⟨k + 1, by omega, by rw [HP.out]; simp [*], by go_num, HB3, HW3⟩
              case measure => simp [intOf]; omega
    · have HB0 : Hid ((!s.isEmpty && (s.take k).all plainB) = bare s) := Lib.hid (by rw [List.take_of_length_le (by omega)]; rfl)
      rw [HB0.out]
      cases hb : bare s
      · have HQ : Hid (quote s c0 = 34 :: (s.take k).flatMap (esc1 e) ++ [34]) := Lib.hid (by unfold quote; rw [hb, if_neg Bool.false_ne_true, HE.out, List.take_of_length_le (by omega)]; rfl)
        clear hb
        go_wp2_with fail
        refine (writeByte_b _ _ 34 _ HB.out (by have := esc_len e (s.take k); rw [List.length_take] at this; rw [List.length_cons]; omega)).mono ?_
        rintro e2 w2 ⟨rfl, hB2, hk2⟩
        have HB2 := Lib.hid hB2
        have HW2 : Hid (Below w.heap.size w w2) := Lib.hid (HW.out.trans hk2.below)
        clear hB2 hk2
        go_wp2_with fail
        refine (string_b _ _ _ HB2.out).mono ?_
        rintro e3 w3 ⟨rfl, h3, hk3⟩
        go_wp2
        go_ret
        exact ⟨by rw [HQ.out]; rfl, HW2.out.trans hk3.below⟩
      · have HQ : Hid (quote s c0 = s) := Lib.hid (by unfold quote; rw [hb, if_pos rfl])
        clear hb
        go_wp2
        go_ret
        exact ⟨by rw [HQ.out]; rfl, HW.out⟩
end Go.Proofs.Ytnmnhnhlggbijaa
