/-
  The walk of the document's Reader (strataref04): number.
-/
import Derived.Test.YtlfeddgpfaigkaaGreatDoorJsQc
import Derived.Test.YtlfeddgpfaigkaaGreatDoorJsDc
namespace Go.Proofs.YtlfeddgpfaigkaaGreatDoor
open Go.RowKit
namespace Js
theorem among_num (c : UInt8) : decide (c ∈ ([48, 49, 50, 51, 52, 53, 54, 55, 56, 57, 45, 43, 46, 101, 69] : List UInt8)) = numc c := by
  have h := (show ∀ n : Fin 256, decide (UInt8.ofNat n.val ∈ ([48, 49, 50, 51, 52, 53, 54, 55, 56, 57, 45, 43, 46, 101, 69] : List UInt8)) = numc (UInt8.ofNat n.val) by decide +kernel) ⟨c.toNat, c.toNat_lt⟩
  simpa using h
theorem tw_step {s : List UInt8} {i j : Nat} (hij : i ≤ j) (hj : j < s.length) (hc : numc (s.getD j 0) = true) (h : (s.drop i).takeWhile numc = (s.drop i).take (j - i) ++ (s.drop j).takeWhile numc) :
    (s.drop i).takeWhile numc = (s.drop i).take (j + 1 - i) ++ (s.drop (j + 1)).takeWhile numc := by
  rw [h, drop_get hj, List.takeWhile_cons, hc, if_pos rfl, show j + 1 - i = (j - i) + 1 by omega, List.take_add_one]
  have : (s.drop i)[j - i]? = some (s.getD j 0) := by
    rw [List.getElem?_drop, show i + (j - i) = j by omega]; simp [List.getD, List.getElem?_eq_getElem hj]
  rw [this]
  simp
theorem tw_stop {s : List UInt8} {i j : Nat} (hs : s.length ≤ j ∨ (j < s.length ∧ numc (s.getD j 0) = false)) (h : (s.drop i).takeWhile numc = (s.drop i).take (j - i) ++ (s.drop j).takeWhile numc) :
    (s.drop i).takeWhile numc = (s.drop i).take (j - i) := by
  rw [h]
  have : (s.drop j).takeWhile numc = [] := by
    rcases hs with h1 | ⟨h1, h2⟩
    · rw [List.drop_eq_nil_of_le h1]; rfl
    · rw [drop_get h1, List.takeWhile_cons, h2]; rfl
  rw [this, List.append_nil]
/-- What number leaves. -/
def NmP (rb : Nat) (s : List UInt8) (i : Nat) (w : World) (x : Ending) (w' : World) : Prop :=
  ∃ z : Int, x = .returned (.int .i64 z) ∧ (-9223372036854775808 ≤ z ∧ z ≤ 9223372036854775807) ∧ Kp w.heap.size (· = rb) w w' ∧
    ((numOf ((s.drop i).takeWhile numc) = some z ∧ ∃ wh', Rb w' rb s (i + ((s.drop i).takeWhile numc).length) 0 wh') ∨ (numOf ((s.drop i).takeWhile numc) = none ∧ ∃ i', i' ≤ s.length ∧ Rb w' rb s i' 4 i))
theorem digs_get {m : List UInt8} {k : Nat} (hs : sgn m ≤ k) (hk : k < m.length) (h25 : k < 25) : (digs m).take (k + 1 - sgn m) = (digs m).take (k - sgn m) ++ [m.getD k 0] := by
  rw [show k + 1 - sgn m = (k - sgn m) + 1 by omega, List.take_add_one]
  have : (digs m)[k - sgn m]? = some (m.getD k 0) := by
    unfold digs
    rw [List.getElem?_drop, show sgn m + (k - sgn m) = k by omega, List.getElem?_take, if_pos h25]; simp [List.getD, List.getElem?_eq_getElem hk]
  rw [this]; rfl
theorem digs_all {m : List UInt8} {k : Nat} (hk : ¬ (k < m.length ∧ k < 25)) : (digs m).take (k - sgn m) = digs m := by
  apply List.take_of_length_le
  unfold digs
  rw [List.length_drop, List.length_take]
  omega
theorem stp_wrap (v : Int) (c : UInt8) : IntKind.u64.wrap (IntKind.u64.wrap (IntKind.u64.wrap (v * 10) + IntKind.u64.wrap (c.toNat : Int)) - 48) = stp v c := by
  rw [IntKind.wrap_u64, IntKind.wrap_u64, IntKind.wrap_u64, IntKind.wrap_u64]
  unfold stp
  have := c.toNat_lt
  omega
theorem w64_pos (v : Int) : IntKind.i64.wrap v = w64 v := by
  rw [IntKind.wrap_i64]; unfold w64; split <;> omega
theorem w64_neg (v : Int) : IntKind.i64.wrap (IntKind.u64.wrap (-v)) = w64 (-v) := by
  rw [IntKind.wrap_i64, IntKind.wrap_u64]; unfold w64; split <;> omega
theorem foldl_snoc {α β : Type} (f : α → β → α) (a : α) (l : List β) (x : β) : (l ++ [x]).foldl f a = f (l.foldl f a) x := by rw [List.foldl_append]; rfl
-- <
set_option maxHeartbeats 6400000 in
set_option maxRecDepth 100000 in
theorem numberR_any (rb : Nat) (s : List UInt8) (i wh : Nat) (w : World) (hr : Rb w rb s i 0 wh) (hs : s.length ≤ 4398046511104) (hi : i < s.length) (hc : numc (s.getD i 0) = true) :
    Calls Tryz.prog 107 #[.pointer (some ⟨rb, 0, none⟩)] w (NmP rb s i w) := by
  have HR0 := Lib.hid hr
  have HC := Lib.hid hc
  clear hr hc
  obtain ⟨a0, a1, _, _⟩ := HR0.out.cells
  go_enter Tryz.func107, Tryz.ntmps107
  go_wp2_with fail
  clear a0 a1
  go_loopg [] (s.length + 1) (fun gk wr => ∃ j : Nat, i ≤ j ∧ j ≤ s.length ∧ s.length - j < gk ∧ Hid ((s.drop i).takeWhile numc = (s.drop i).take (j - i) ++ (s.drop j).takeWhile numc) ∧ Hid (Rb wr rb s j 0 wh) ∧ Hid (KR rb w wr))
  case atStart => exact ⟨i, Nat.le_refl _, by omega, by omega, Lib.hid (by simp), HR0, Lib.hid (kr_refl _ _)⟩
  case round =>
    obtain ⟨j, hij, hj, hgk, HT, HR, HK⟩ := hrel
    obtain ⟨c0, c1, _, _⟩ := HR.out.cells
    by_cases hlt : j < s.length
    · have HE := Lib.hid (fun wx (h : Rb wx rb s j 0 wh) => endR_f rb s j 0 wh wx h hlt)
      have hidx := run_index_list Tryz.underlying9 s j hlt
      have HA : Hid (∀ wx, Calls Tryz.prog 146 #[.int .u8 ((s.getD j 0).toNat : Int), .string ⟨#[48, 49, 50, 51, 52, 53, 54, 55, 56, 57, 45, 43, 46, 101, 69]⟩] wx fun x w' => x = .returned (.bool (numc (s.getD j 0))) ∧ wx = w') := Lib.hid (fun wx => by
        have := amongR_any (s.getD j 0) [48, 49, 50, 51, 52, 53, 54, 55, 56, 57, 45, 43, 46, 101, 69] (by decide) wx
        rw [among_num] at this
        exact this)
      by_cases hn : numc (s.getD j 0) = true
      · have HT1 := Lib.hid (tw_step hij hlt hn HT.out)
        rw [hn] at HA
        clear hn
        generalize s.getD j 0 = c at hidx HA
        go_wp2_with fail
        go_quiet (first | exact Calls.quiet_of (HE.out _ HR.out) | exact Calls.quiet_of ((HA.out _).mono (by rintro e w' ⟨rfl, rfl⟩; exact ⟨rfl, 0, rfl⟩)))
        have HRQ : Hid (Rb (wr.drewN nq) rb s j 0 wh) := Lib.hid HR.out
        have HKQ : Hid (KR rb w (wr.drewN nq)) := Lib.hid (Kp.drewN HK.out nq)
        clear c0 c1 HR HK
        generalize wr.drewN nq = wq at HRQ HKQ ⊢
        obtain ⟨c0, c1, _, _⟩ := HRQ.out.cells
        have f1 := Blk.frozen HRQ.out 1
        go_wp2_with fail
        go_roundg (gk - 1)
        case measure => omega
        case rel => exact ⟨j + 1, by omega, by omega, by omega, HT1, Lib.hid (HRQ.out.at_ (j + 1)), Lib.hid (kr_set HKQ.out _)⟩
      · have HT1 := Lib.hid (tw_stop (.inr ⟨hlt, by simpa using hn⟩) HT.out)
        rw [Bool.not_eq_true] at hn
        rw [hn] at HA
        have HIJ : Hid (i < j) := Lib.hid (by
          rcases Nat.lt_or_ge i j with h | h
          · exact h
          · obtain rfl : i = j := by omega
            rw [HC.out] at hn; cases hn)
        clear hn
        generalize s.getD j 0 = c at hidx HA
        go_wp2_with fail
        go_quiet (first | exact Calls.quiet_of (HE.out _ HR.out) | exact Calls.quiet_of ((HA.out _).mono (by rintro e w' ⟨rfl, rfl⟩; exact ⟨rfl, 0, rfl⟩)))
        have HRQ : Hid (Rb (wr.drewN nq) rb s j 0 wh) := Lib.hid HR.out
        have HKQ : Hid (KR rb w (wr.drewN nq)) := Lib.hid (Kp.drewN HK.out nq)
        clear c0 c1 HR HK hidx HA HE
        generalize wr.drewN nq = wq at HRQ HKQ ⊢
        obtain ⟨c0, c1, _, _⟩ := HRQ.out.cells
        have hsl := run_slice_list Tryz.underlying9 s .i64 .i64 (i : Int) (j : Int) i j rfl rfl hij hj
        have HML : Hid (((s.drop i).take (j - i)).length = j - i) := Lib.hid (by rw [List.length_take, List.length_drop]; omega)
        have HIL : Hid (i + (j - i) = j ∧ j - i ≤ 4398046511104 ∧ 0 < j - i) := Lib.hid (by have := HIJ.out; omega)
        obtain ⟨m, hm⟩ : ∃ m, m = (s.drop i).take (j - i) := ⟨_, rfl⟩
        rw [← hm] at hsl HML HT1
        have HM0 := Lib.hid hm
        have hml : 0 < m.length := by have := HML.out; have := HIL.out; omega
        have hml2 : m.length ≤ 4398046511104 := by have := HML.out; have := HIL.out; omega
        clear hm
        go_wp2_with fail
        go_quiet (fail)
        have HRQ2 : Hid (Rb (wq.drewN nq) rb s j 0 wh) := Lib.hid HRQ.out
        have HKQ2 : Hid (KR rb w (wq.drewN nq)) := Lib.hid (Kp.drewN HKQ.out nq)
        clear c0 c1 HRQ HKQ hsl
        generalize wq.drewN nq = w2 at HRQ2 HKQ2 ⊢
        have HX0 := Lib.hid (run_index_list Tryz.underlying9 m 0 hml)
        by_cases h45 : m.getD 0 0 = 45
        · have HSG : Hid (sgn m = 1) := Lib.hid (by unfold sgn; rw [if_pos h45])
          have hidx0 : ∀ w, (Instr.index 9 (.string ⟨m.toArray⟩) (.int .i64 0)).run Tryz.prog w = .ok (.int .u8 45) w := fun w => by
            have := HX0.out w
            rw [h45] at this
            exact this
          clear h45
          go_wp2_with fail
          clear hidx0
          go_loopw [5, 7] (fun n k wy => ∃ (q : Nat) (v : Int), wy = w2 ∧ 1 ≤ q ∧ q ≤ m.length ∧ k = .int .i64 (q : Nat) ∧ n = .int .u64 v ∧ 0 ≤ v ∧ v < 18446744073709551616 ∧ Hid (v = ((digs m).take (q - sgn m)).foldl stp 0)) (fun _ k _ => m.length - (intOf k).toNat)
          case atStart => exact ⟨1, 0, rfl, by omega, by omega, rfl, rfl, by omega, by omega, Lib.hid (by rw [HSG.out]; rfl)⟩
          case round =>
            obtain ⟨q, v, hwr, hq1, hq, rfl, rfl, hv0, hv1, HV⟩ := hrel
            subst hwr
            by_cases hgo : q < m.length ∧ q < 25
            · obtain ⟨hlt3, hlt4⟩ := hgo
              have hidx1 := run_index_list Tryz.underlying9 m q hlt3
              have HST : Hid (stp v (m.getD q 0) = ((digs m).take (q + 1 - sgn m)).foldl stp 0) := Lib.hid (by rw [digs_get (by rw [HSG.out]; exact hq1) hlt3 hlt4, foldl_snoc, ← HV.out])
              generalize m.getD q 0 = c at hidx1 HST
              have HSV := Lib.hid (stp_wrap v c)
              have HSR : Hid (0 ≤ stp v c ∧ stp v c < 18446744073709551616) := Lib.hid (by unfold stp; omega)
              go_wp2_with fail
              go_roundw
              case rel => exact ⟨q + 1, stp v c, trivial, by omega, by omega, by go_num, by rw [HSV.out], HSR.out.1, HSR.out.2, HST⟩
              case measure => simp [intOf]; omega
            · have HRN : Hid (v = refN m) := Lib.hid (by rw [HV.out, digs_all hgo]; rfl)
              obtain ⟨z, hz⟩ : ∃ z, z = refV m := ⟨_, rfl⟩
              have HZ := Lib.hid hz
              have HZR : Hid (-9223372036854775808 ≤ z ∧ z ≤ 9223372036854775807) := Lib.hid (by rw [hz]; exact refV_range m)
              have hzz : IntKind.i64.wrap (IntKind.u64.wrap (-v)) = z := by rw [w64_neg, hz]; unfold refV; rw [if_pos HSG.out, HRN.out]
              have HD := Lib.hid (fun wx => decimalR_any z wx HZR.out.1 HZR.out.2)
              have HNO : Hid (numOf m = if decI z = m then some z else none) := Lib.hid (by rw [hz]; exact refV_num m)
              clear hz
              have hq3 : (¬ q < m.length) ∨ (q < m.length ∧ ¬ q < 25) := by omega
              clear hgo
              rcases hq3 with hq3 | ⟨hq3, hq4⟩
              all_goals
                by_cases he : decI z = m
                · have hb : (decI z == m) = true := by rw [he]; exact beq_self_eq_true m
                  have hb2 : decide (decI z = m) = true := decide_eq_true he
                  have HN2 : Hid (numOf m = some z) := Lib.hid (by rw [HNO.out, if_pos he])
                  clear he
                  go_wp2_with fail
                  refine (HD.out _).mono ?_
                  rintro x w3 ⟨rfl, hb3⟩
                  have HR3 : Hid (Rb w3 rb s j 0 wh) := Lib.hid (Blk.below HRQ2.out hb3 (Blk.lt HRQ2.out))
                  have HK3 : Hid (KR rb w w3) := Lib.hid (kr_below HKQ2.out hb3)
                  clear hb3
                  generalize decI z = t at hb hb2
                  have ne := fun wx => neq_texts t m wx
                  rw [show decide (t ≠ m) = !decide (t = m) from decide_not, hb2] at ne
                  clear hb2
                  go_wp2_with fail
                  go_ret
                  exact ⟨z, rfl, HZR.out, HK3.out, .inl ⟨by rw [HT1.out]; exact HN2.out, wh, by rw [HT1.out, HML.out, HIL.out.1]; exact HR3.out⟩⟩
                · have hb : (decI z == m) = false := by rw [beq_eq_false_iff_ne]; exact he
                  have hb2 : decide (decI z = m) = false := decide_eq_false he
                  have HN2 : Hid (numOf m = none) := Lib.hid (by rw [HNO.out, if_neg he])
                  clear he
                  go_wp2_with fail
                  refine (HD.out _).mono ?_
                  rintro x w3 ⟨rfl, hb3⟩
                  have HR3 : Hid (Rb w3 rb s j 0 wh) := Lib.hid (Blk.below HRQ2.out hb3 (Blk.lt HRQ2.out))
                  have HK3 : Hid (KR rb w w3) := Lib.hid (kr_below HKQ2.out hb3)
                  clear hb3
                  have HF := Lib.hid (failR_any rb s j wh 4 i w3 HR3.out)
                  generalize decI z = t at hb hb2
                  have ne := fun wx => neq_texts t m wx
                  rw [show decide (t ≠ m) = !decide (t = m) from decide_not, hb2] at ne
                  clear hb2
                  go_wp2_with fail
                  refine HF.out.mono ?_
                  rintro x w4 ⟨rfl, hr4, hk4⟩
                  have HR4 := Lib.hid hr4
                  have HK4 := Lib.hid (kr_trans HK3.out hk4)
                  clear hr4 hk4 HF
                  go_wp2_with fail
                  go_ret
                  exact ⟨z, rfl, HZR.out, HK4.out, .inr ⟨by rw [HT1.out]; exact HN2.out, j, by have := HIL.out; omega, HR4.out⟩⟩
        · have HSG : Hid (sgn m = 0) := Lib.hid (by unfold sgn; rw [if_neg h45])
          have q0 : (((m.getD 0 0).toNat : Int) == 45) = false := b8f h45
          have hidx0 : ∀ w, (Instr.index 9 (.string ⟨m.toArray⟩) (.int .i64 0)).run Tryz.prog w = .ok (.int .u8 ((m.getD 0 0).toNat : Int)) w := HX0.out
          clear h45 HX0
          generalize m.getD 0 0 = c0 at q0 hidx0
          go_wp2_with fail
          clear hidx0
          go_loopw [5, 7] (fun n k wy => ∃ (q : Nat) (v : Int), wy = w2 ∧ 0 ≤ q ∧ q ≤ m.length ∧ k = .int .i64 (q : Nat) ∧ n = .int .u64 v ∧ 0 ≤ v ∧ v < 18446744073709551616 ∧ Hid (v = ((digs m).take (q - sgn m)).foldl stp 0)) (fun _ k _ => m.length - (intOf k).toNat)
          case atStart => exact ⟨0, 0, rfl, by omega, by omega, rfl, rfl, by omega, by omega, Lib.hid (by rw [HSG.out]; rfl)⟩
          case round =>
            obtain ⟨q, v, hwr, hq1, hq, rfl, rfl, hv0, hv1, HV⟩ := hrel
            subst hwr
            by_cases hgo : q < m.length ∧ q < 25
            · obtain ⟨hlt3, hlt4⟩ := hgo
              have hidx1 := run_index_list Tryz.underlying9 m q hlt3
              have HST : Hid (stp v (m.getD q 0) = ((digs m).take (q + 1 - sgn m)).foldl stp 0) := Lib.hid (by rw [digs_get (by rw [HSG.out]; exact hq1) hlt3 hlt4, foldl_snoc, ← HV.out])
              generalize m.getD q 0 = c at hidx1 HST
              have HSV := Lib.hid (stp_wrap v c)
              have HSR : Hid (0 ≤ stp v c ∧ stp v c < 18446744073709551616) := Lib.hid (by unfold stp; omega)
              go_wp2_with fail
              go_roundw
              case rel => exact ⟨q + 1, stp v c, trivial, by omega, by omega, by go_num, by rw [HSV.out], HSR.out.1, HSR.out.2, HST⟩
              case measure => simp [intOf]; omega
            · have HRN : Hid (v = refN m) := Lib.hid (by rw [HV.out, digs_all hgo]; rfl)
              obtain ⟨z, hz⟩ : ∃ z, z = refV m := ⟨_, rfl⟩
              have HZ := Lib.hid hz
              have HZR : Hid (-9223372036854775808 ≤ z ∧ z ≤ 9223372036854775807) := Lib.hid (by rw [hz]; exact refV_range m)
              have hzz : IntKind.i64.wrap v = z := by rw [w64_pos, hz]; unfold refV; rw [if_neg (by rw [HSG.out]; decide), HRN.out]
              have HD := Lib.hid (fun wx => decimalR_any z wx HZR.out.1 HZR.out.2)
              have HNO : Hid (numOf m = if decI z = m then some z else none) := Lib.hid (by rw [hz]; exact refV_num m)
              clear hz
              have hq3 : (¬ q < m.length) ∨ (q < m.length ∧ ¬ q < 25) := by omega
              clear hgo
              rcases hq3 with hq3 | ⟨hq3, hq4⟩
              all_goals
                by_cases he : decI z = m
                · have hb : (decI z == m) = true := by rw [he]; exact beq_self_eq_true m
                  have hb2 : decide (decI z = m) = true := decide_eq_true he
                  have HN2 : Hid (numOf m = some z) := Lib.hid (by rw [HNO.out, if_pos he])
                  clear he
                  go_wp2_with fail
                  refine (HD.out _).mono ?_
                  rintro x w3 ⟨rfl, hb3⟩
                  have HR3 : Hid (Rb w3 rb s j 0 wh) := Lib.hid (Blk.below HRQ2.out hb3 (Blk.lt HRQ2.out))
                  have HK3 : Hid (KR rb w w3) := Lib.hid (kr_below HKQ2.out hb3)
                  clear hb3
                  generalize decI z = t at hb hb2
                  have ne := fun wx => neq_texts t m wx
                  rw [show decide (t ≠ m) = !decide (t = m) from decide_not, hb2] at ne
                  clear hb2
                  go_wp2_with fail
                  go_ret
                  exact ⟨z, rfl, HZR.out, HK3.out, .inl ⟨by rw [HT1.out]; exact HN2.out, wh, by rw [HT1.out, HML.out, HIL.out.1]; exact HR3.out⟩⟩
                · have hb : (decI z == m) = false := by rw [beq_eq_false_iff_ne]; exact he
                  have hb2 : decide (decI z = m) = false := decide_eq_false he
                  have HN2 : Hid (numOf m = none) := Lib.hid (by rw [HNO.out, if_neg he])
                  clear he
                  go_wp2_with fail
                  refine (HD.out _).mono ?_
                  rintro x w3 ⟨rfl, hb3⟩
                  have HR3 : Hid (Rb w3 rb s j 0 wh) := Lib.hid (Blk.below HRQ2.out hb3 (Blk.lt HRQ2.out))
                  have HK3 : Hid (KR rb w w3) := Lib.hid (kr_below HKQ2.out hb3)
                  clear hb3
                  have HF := Lib.hid (failR_any rb s j wh 4 i w3 HR3.out)
                  generalize decI z = t at hb hb2
                  have ne := fun wx => neq_texts t m wx
                  rw [show decide (t ≠ m) = !decide (t = m) from decide_not, hb2] at ne
                  clear hb2
                  go_wp2_with fail
                  refine HF.out.mono ?_
                  rintro x w4 ⟨rfl, hr4, hk4⟩
                  have HR4 := Lib.hid hr4
                  have HK4 := Lib.hid (kr_trans HK3.out hk4)
                  clear hr4 hk4 HF
                  go_wp2_with fail
                  go_ret
                  exact ⟨z, rfl, HZR.out, HK4.out, .inr ⟨by rw [HT1.out]; exact HN2.out, j, by have := HIL.out; omega, HR4.out⟩⟩
    · have HT1 := Lib.hid (tw_stop (.inl (by omega)) HT.out)
      have HIJ : Hid (i < j) := Lib.hid (by omega)
      go_upto_region 2 with fail
      refine wp_region_held_drew (S := (fun wy => wy.cell? ⟨rb, 0, none⟩ = some (.string ⟨s.toArray⟩) ∧ wy.cell? ⟨rb, 1, none⟩ = some (.int .i64 (j : Nat)))) (by kernel_rfl) ⟨c0, c1⟩ (fun hHeld => ?_)
      refine tk 0 (h := ?_)
      try simp only [Act.put, List.setIfInBounds_toArray, List.set_cons_zero, List.set_cons_succ]
      refine wpAnyH_ready (rs := [1]) (by kernel_rfl) (by simp) ?_
      refine rdy (fun K hK => ?_) AllReadyH.nil
      rw [if_pos (by rfl)]
      go_simp
      refine (endR_t rb s j 0 wh wr.drew HR.out (by omega)).mono ?_
      rintro x wn ⟨rfl, nq, rfl⟩
      refine hK.out _ _ ⟨c0, c1⟩ (fun _ => ?_)
      clear hK
      try simp only [Act.put, List.setIfInBounds_toArray, List.set_cons_zero, List.set_cons_succ]
      refine tk 2 (h := ?_)
      try simp only [Act.put, List.setIfInBounds_toArray, List.set_cons_zero, List.set_cons_succ]
      refine tk 3 (h := ?_)
      try simp only [Act.put, List.setIfInBounds_toArray, List.set_cons_zero, List.set_cons_succ]
      refine tks 4 (h := ?_)
      try simp only [Act.put, List.setIfInBounds_toArray, List.set_cons_zero, List.set_cons_succ]
      refine tks 5 (h := ?_)
      try simp only [Act.put, List.setIfInBounds_toArray, List.set_cons_zero, List.set_cons_succ]
      refine tks 6 (h := ?_)
      try simp only [Act.put, List.setIfInBounds_toArray, List.set_cons_zero, List.set_cons_succ]
      refine tks 7 (h := ?_)
      try simp only [Act.put, List.setIfInBounds_toArray, List.set_cons_zero, List.set_cons_succ]
      refine tks 8 (h := ?_)
      try simp only [Act.put, List.setIfInBounds_toArray, List.set_cons_zero, List.set_cons_succ]
      refine tks 9 (h := ?_)
      try simp only [Act.put, List.setIfInBounds_toArray, List.set_cons_zero, List.set_cons_succ]
      refine tks 10 (h := ?_)
      try simp only [Act.put, List.setIfInBounds_toArray, List.set_cons_zero, List.set_cons_succ]
      refine tks 11 (h := ?_)
      try simp only [Act.put, List.setIfInBounds_toArray, List.set_cons_zero, List.set_cons_succ]
      refine tks 12 (h := ?_)
      try simp only [Act.put, List.setIfInBounds_toArray, List.set_cons_zero, List.set_cons_succ]
      refine tks 13 (h := ?_)
      try simp only [Act.put, List.setIfInBounds_toArray, List.set_cons_zero, List.set_cons_succ]
      refine tk 14 (h := ?_)
      try simp only [Act.put, List.setIfInBounds_toArray, List.set_cons_zero, List.set_cons_succ]
      refine wpAnyH_done (by kernel_rfl) ?_ _
      obtain ⟨wq, hwq⟩ : ∃ wq, wq = wr.drew.drewN nq := ⟨_, rfl⟩
      have HRQ : Hid (Rb wq rb s j 0 wh) := Lib.hid (by rw [hwq]; exact HR.out)
      have HKQ : Hid (KR rb w wq) := Lib.hid (by rw [hwq]; exact (Kp.drew HK.out).drewN _)
      rw [← hwq]
      clear hwq c0 c1 HR HK
      obtain ⟨c0, c1, _, _⟩ := HRQ.out.cells
      have hsl := run_slice_list Tryz.underlying9 s .i64 .i64 (i : Int) (j : Int) i j rfl rfl hij hj
      have HML : Hid (((s.drop i).take (j - i)).length = j - i) := Lib.hid (by rw [List.length_take, List.length_drop]; omega)
      have HIL : Hid (i + (j - i) = j ∧ j - i ≤ 4398046511104 ∧ 0 < j - i) := Lib.hid (by have := HIJ.out; omega)
      obtain ⟨m, hm⟩ : ∃ m, m = (s.drop i).take (j - i) := ⟨_, rfl⟩
      rw [← hm] at hsl HML HT1
      have HM0 := Lib.hid hm
      have hml : 0 < m.length := by have := HML.out; have := HIL.out; omega
      have hml2 : m.length ≤ 4398046511104 := by have := HML.out; have := HIL.out; omega
      clear hm
      go_wp2_with fail
      go_quiet (fail)
      have HRQ2 : Hid (Rb (wq.drewN nq) rb s j 0 wh) := Lib.hid HRQ.out
      have HKQ2 : Hid (KR rb w (wq.drewN nq)) := Lib.hid (Kp.drewN HKQ.out nq)
      clear c0 c1 HRQ HKQ hsl
      generalize wq.drewN nq = w2 at HRQ2 HKQ2 ⊢
      have HX0 := Lib.hid (run_index_list Tryz.underlying9 m 0 hml)
      by_cases h45 : m.getD 0 0 = 45
      · have HSG : Hid (sgn m = 1) := Lib.hid (by unfold sgn; rw [if_pos h45])
        have hidx0 : ∀ w, (Instr.index 9 (.string ⟨m.toArray⟩) (.int .i64 0)).run Tryz.prog w = .ok (.int .u8 45) w := fun w => by
          have := HX0.out w
          rw [h45] at this
          exact this
        clear h45
        go_wp2_with fail
        clear hidx0
        go_loopw [5, 7] (fun n k wy => ∃ (q : Nat) (v : Int), wy = w2 ∧ 1 ≤ q ∧ q ≤ m.length ∧ k = .int .i64 (q : Nat) ∧ n = .int .u64 v ∧ 0 ≤ v ∧ v < 18446744073709551616 ∧ Hid (v = ((digs m).take (q - sgn m)).foldl stp 0)) (fun _ k _ => m.length - (intOf k).toNat)
        case atStart => exact ⟨1, 0, rfl, by omega, by omega, rfl, rfl, by omega, by omega, Lib.hid (by rw [HSG.out]; rfl)⟩
        case round =>
          obtain ⟨q, v, hwr, hq1, hq, rfl, rfl, hv0, hv1, HV⟩ := hrel
          subst hwr
          by_cases hgo : q < m.length ∧ q < 25
          · obtain ⟨hlt3, hlt4⟩ := hgo
            have hidx1 := run_index_list Tryz.underlying9 m q hlt3
            have HST : Hid (stp v (m.getD q 0) = ((digs m).take (q + 1 - sgn m)).foldl stp 0) := Lib.hid (by rw [digs_get (by rw [HSG.out]; exact hq1) hlt3 hlt4, foldl_snoc, ← HV.out])
            generalize m.getD q 0 = c at hidx1 HST
            have HSV := Lib.hid (stp_wrap v c)
            have HSR : Hid (0 ≤ stp v c ∧ stp v c < 18446744073709551616) := Lib.hid (by unfold stp; omega)
            go_wp2_with fail
            go_roundw
            case rel => exact ⟨q + 1, stp v c, trivial, by omega, by omega, by go_num, by rw [HSV.out], HSR.out.1, HSR.out.2, HST⟩
            case measure => simp [intOf]; omega
          · have HRN : Hid (v = refN m) := Lib.hid (by rw [HV.out, digs_all hgo]; rfl)
            obtain ⟨z, hz⟩ : ∃ z, z = refV m := ⟨_, rfl⟩
            have HZ := Lib.hid hz
            have HZR : Hid (-9223372036854775808 ≤ z ∧ z ≤ 9223372036854775807) := Lib.hid (by rw [hz]; exact refV_range m)
            have hzz : IntKind.i64.wrap (IntKind.u64.wrap (-v)) = z := by rw [w64_neg, hz]; unfold refV; rw [if_pos HSG.out, HRN.out]
            have HD := Lib.hid (fun wx => decimalR_any z wx HZR.out.1 HZR.out.2)
            have HNO : Hid (numOf m = if decI z = m then some z else none) := Lib.hid (by rw [hz]; exact refV_num m)
            clear hz
            have hq3 : (¬ q < m.length) ∨ (q < m.length ∧ ¬ q < 25) := by omega
            clear hgo
            rcases hq3 with hq3 | ⟨hq3, hq4⟩
            all_goals
              by_cases he : decI z = m
              · have hb : (decI z == m) = true := by rw [he]; exact beq_self_eq_true m
                have hb2 : decide (decI z = m) = true := decide_eq_true he
                have HN2 : Hid (numOf m = some z) := Lib.hid (by rw [HNO.out, if_pos he])
                clear he
                go_wp2_with fail
                refine (HD.out _).mono ?_
                rintro x w3 ⟨rfl, hb3⟩
                have HR3 : Hid (Rb w3 rb s j 0 wh) := Lib.hid (Blk.below HRQ2.out hb3 (Blk.lt HRQ2.out))
                have HK3 : Hid (KR rb w w3) := Lib.hid (kr_below HKQ2.out hb3)
                clear hb3
                generalize decI z = t at hb hb2
                have ne := fun wx => neq_texts t m wx
                rw [show decide (t ≠ m) = !decide (t = m) from decide_not, hb2] at ne
                clear hb2
                go_wp2_with fail
                go_ret
                exact ⟨z, rfl, HZR.out, HK3.out, .inl ⟨by rw [HT1.out]; exact HN2.out, wh, by rw [HT1.out, HML.out, HIL.out.1]; exact HR3.out⟩⟩
              · have hb : (decI z == m) = false := by rw [beq_eq_false_iff_ne]; exact he
                have hb2 : decide (decI z = m) = false := decide_eq_false he
                have HN2 : Hid (numOf m = none) := Lib.hid (by rw [HNO.out, if_neg he])
                clear he
                go_wp2_with fail
                refine (HD.out _).mono ?_
                rintro x w3 ⟨rfl, hb3⟩
                have HR3 : Hid (Rb w3 rb s j 0 wh) := Lib.hid (Blk.below HRQ2.out hb3 (Blk.lt HRQ2.out))
                have HK3 : Hid (KR rb w w3) := Lib.hid (kr_below HKQ2.out hb3)
                clear hb3
                have HF := Lib.hid (failR_any rb s j wh 4 i w3 HR3.out)
                generalize decI z = t at hb hb2
                have ne := fun wx => neq_texts t m wx
                rw [show decide (t ≠ m) = !decide (t = m) from decide_not, hb2] at ne
                clear hb2
                go_wp2_with fail
                refine HF.out.mono ?_
                rintro x w4 ⟨rfl, hr4, hk4⟩
                have HR4 := Lib.hid hr4
                have HK4 := Lib.hid (kr_trans HK3.out hk4)
                clear hr4 hk4 HF
                go_wp2_with fail
                go_ret
                exact ⟨z, rfl, HZR.out, HK4.out, .inr ⟨by rw [HT1.out]; exact HN2.out, j, by have := HIL.out; omega, HR4.out⟩⟩
      · have HSG : Hid (sgn m = 0) := Lib.hid (by unfold sgn; rw [if_neg h45])
        have q0 : (((m.getD 0 0).toNat : Int) == 45) = false := b8f h45
        have hidx0 : ∀ w, (Instr.index 9 (.string ⟨m.toArray⟩) (.int .i64 0)).run Tryz.prog w = .ok (.int .u8 ((m.getD 0 0).toNat : Int)) w := HX0.out
        clear h45 HX0
        generalize m.getD 0 0 = c0 at q0 hidx0
        go_wp2_with fail
        clear hidx0
        go_loopw [5, 7] (fun n k wy => ∃ (q : Nat) (v : Int), wy = w2 ∧ 0 ≤ q ∧ q ≤ m.length ∧ k = .int .i64 (q : Nat) ∧ n = .int .u64 v ∧ 0 ≤ v ∧ v < 18446744073709551616 ∧ Hid (v = ((digs m).take (q - sgn m)).foldl stp 0)) (fun _ k _ => m.length - (intOf k).toNat)
        case atStart => exact ⟨0, 0, rfl, by omega, by omega, rfl, rfl, by omega, by omega, Lib.hid (by rw [HSG.out]; rfl)⟩
        case round =>
          obtain ⟨q, v, hwr, hq1, hq, rfl, rfl, hv0, hv1, HV⟩ := hrel
          subst hwr
          by_cases hgo : q < m.length ∧ q < 25
          · obtain ⟨hlt3, hlt4⟩ := hgo
            have hidx1 := run_index_list Tryz.underlying9 m q hlt3
            have HST : Hid (stp v (m.getD q 0) = ((digs m).take (q + 1 - sgn m)).foldl stp 0) := Lib.hid (by rw [digs_get (by rw [HSG.out]; exact hq1) hlt3 hlt4, foldl_snoc, ← HV.out])
            generalize m.getD q 0 = c at hidx1 HST
            have HSV := Lib.hid (stp_wrap v c)
            have HSR : Hid (0 ≤ stp v c ∧ stp v c < 18446744073709551616) := Lib.hid (by unfold stp; omega)
            go_wp2_with fail
            go_roundw
            case rel => exact ⟨q + 1, stp v c, trivial, by omega, by omega, by go_num, by rw [HSV.out], HSR.out.1, HSR.out.2, HST⟩
            case measure => simp [intOf]; omega
          · have HRN : Hid (v = refN m) := Lib.hid (by rw [HV.out, digs_all hgo]; rfl)
            obtain ⟨z, hz⟩ : ∃ z, z = refV m := ⟨_, rfl⟩
            have HZ := Lib.hid hz
            have HZR : Hid (-9223372036854775808 ≤ z ∧ z ≤ 9223372036854775807) := Lib.hid (by rw [hz]; exact refV_range m)
            have hzz : IntKind.i64.wrap v = z := by rw [w64_pos, hz]; unfold refV; rw [if_neg (by rw [HSG.out]; decide), HRN.out]
            have HD := Lib.hid (fun wx => decimalR_any z wx HZR.out.1 HZR.out.2)
            have HNO : Hid (numOf m = if decI z = m then some z else none) := Lib.hid (by rw [hz]; exact refV_num m)
            clear hz
            have hq3 : (¬ q < m.length) ∨ (q < m.length ∧ ¬ q < 25) := by omega
            clear hgo
            rcases hq3 with hq3 | ⟨hq3, hq4⟩
            all_goals
              by_cases he : decI z = m
              · have hb : (decI z == m) = true := by rw [he]; exact beq_self_eq_true m
                have hb2 : decide (decI z = m) = true := decide_eq_true he
                have HN2 : Hid (numOf m = some z) := Lib.hid (by rw [HNO.out, if_pos he])
                clear he
                go_wp2_with fail
                refine (HD.out _).mono ?_
                rintro x w3 ⟨rfl, hb3⟩
                have HR3 : Hid (Rb w3 rb s j 0 wh) := Lib.hid (Blk.below HRQ2.out hb3 (Blk.lt HRQ2.out))
                have HK3 : Hid (KR rb w w3) := Lib.hid (kr_below HKQ2.out hb3)
                clear hb3
                generalize decI z = t at hb hb2
                have ne := fun wx => neq_texts t m wx
                rw [show decide (t ≠ m) = !decide (t = m) from decide_not, hb2] at ne
                clear hb2
                go_wp2_with fail
                go_ret
                exact ⟨z, rfl, HZR.out, HK3.out, .inl ⟨by rw [HT1.out]; exact HN2.out, wh, by rw [HT1.out, HML.out, HIL.out.1]; exact HR3.out⟩⟩
              · have hb : (decI z == m) = false := by rw [beq_eq_false_iff_ne]; exact he
                have hb2 : decide (decI z = m) = false := decide_eq_false he
                have HN2 : Hid (numOf m = none) := Lib.hid (by rw [HNO.out, if_neg he])
                clear he
                go_wp2_with fail
                refine (HD.out _).mono ?_
                rintro x w3 ⟨rfl, hb3⟩
                have HR3 : Hid (Rb w3 rb s j 0 wh) := Lib.hid (Blk.below HRQ2.out hb3 (Blk.lt HRQ2.out))
                have HK3 : Hid (KR rb w w3) := Lib.hid (kr_below HKQ2.out hb3)
                clear hb3
                have HF := Lib.hid (failR_any rb s j wh 4 i w3 HR3.out)
                generalize decI z = t at hb hb2
                have ne := fun wx => neq_texts t m wx
                rw [show decide (t ≠ m) = !decide (t = m) from decide_not, hb2] at ne
                clear hb2
                go_wp2_with fail
                refine HF.out.mono ?_
                rintro x w4 ⟨rfl, hr4, hk4⟩
                have HR4 := Lib.hid hr4
                have HK4 := Lib.hid (kr_trans HK3.out hk4)
                clear hr4 hk4 HF
                go_wp2_with fail
                go_ret
                exact ⟨z, rfl, HZR.out, HK4.out, .inr ⟨by rw [HT1.out]; exact HN2.out, j, by have := HIL.out; omega, HR4.out⟩⟩
-- >
end Js
end Go.Proofs.YtlfeddgpfaigkaaGreatDoor
