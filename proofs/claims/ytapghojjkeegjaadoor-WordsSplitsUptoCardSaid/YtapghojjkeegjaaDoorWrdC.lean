/-
  The walks of stratalaw13's blanks and WordsCover at this seat's translation.
-/
import Derived.Test.YtapghojjkeegjaaDoorWrdR
import Derived.Test.YtapghojjkeegjaaDoorWrdK
import Derived.IntWalk
namespace Go.Proofs.YtapghojjkeegjaaDoor
open Go.RowKit Wrd Err

set_option maxHeartbeats 1000000 in
theorem blanks_any (s : List UInt8) (hs : s.length ≤ 4398046511104) (w : World) :
    Calls Tryd.prog 19 #[.string ⟨s.toArray⟩] w fun e w' => e = .returned (.bool (s.all Wrd.blank)) ∧ w' = w := by
  go_enter Tryd.func19, Tryd.ntmps19
  go_wp2_with fail
  go_loop [3] (fun i => ∃ k : Nat, k ≤ s.length ∧ i = .int .i64 k ∧ Hid ((s.take k).all Wrd.blank = true)) (fun i => s.length - (intOf i).toNat)
  case atStart => exact ⟨0, by omega, rfl, Lib.hid rfl⟩
  case round =>
    obtain ⟨k, hk, rfl, HA⟩ := hrel
    by_cases hlt : k < s.length
    · have hidx := run_index_list Tryd.underlying9 s k hlt
      have HX : Hid (s.take (k + 1) = s.take k ++ [s.getD k 0]) := Lib.hid (by rw [List.take_succ_eq_append_getElem hlt]; simp [List.getD, List.getElem?_eq_getElem hlt])
      generalize s.getD k 0 = c at hidx HX
      by_cases hb : c.toNat = 32 ∨ c.toNat = 9 ∨ c.toNat = 13
      · have HA2 : Hid ((s.take (k + 1)).all Wrd.blank = true) := Lib.hid (by rw [HX.out, List.all_append, HA.out]; simp [blank_yes hb])
        rcases hb with h | h | h
        all_goals
          have q1 : ((c.toNat : Int) != 32) = decide (c.toNat ≠ 32) := by rw [Bool.eq_iff_iff, bne_iff_ne, decide_eq_true_eq]; omega
          have q2 : ((c.toNat : Int) != 9) = decide (c.toNat ≠ 9) := by rw [Bool.eq_iff_iff, bne_iff_ne, decide_eq_true_eq]; omega
          have q3 : ((c.toNat : Int) != 13) = decide (c.toNat ≠ 13) := by rw [Bool.eq_iff_iff, bne_iff_ne, decide_eq_true_eq]; omega
          rw [h] at q1 q2 q3
          simp only [ne_eq, not_true_eq_false, decide_false, not_false_eq_true, decide_true, Nat.reduceEqDiff] at q1 q2 q3
          go_wp2
          go_round
          case rel => exact ⟨k + 1, by omega, by go_num, HA2⟩
          case measure => simp [intOf]; omega
      · have HF : Hid (s.all Wrd.blank = false) := Lib.hid (by
          rw [← List.take_append_drop (k + 1) s, List.all_append, HX.out, List.all_append]
          simp [blank_no (fun h => hb (.inl h)) (fun h => hb (.inr (.inl h))) (fun h => hb (.inr (.inr h)))])
        have q1 : ((c.toNat : Int) != 32) = true := by rw [bne_iff_ne]; omega
        have q2 : ((c.toNat : Int) != 9) = true := by rw [bne_iff_ne]; omega
        have q3 : ((c.toNat : Int) != 13) = true := by rw [bne_iff_ne]; omega
        clear hb
        go_wp2
        go_ret
        exact ⟨by rw [HF.out]; rfl, rfl⟩
    · have HF : Hid (s.all Wrd.blank = true) := Lib.hid (by have := HA.out; rwa [List.take_of_length_le (by omega)] at this)
      go_wp2
      go_ret
      exact ⟨by rw [HF.out]; rfl, rfl⟩
theorem blanks_is {s : List UInt8} {b : Bool} (hs : s.length ≤ 4398046511104) (h : s.all Wrd.blank = b) (w : World) :
    Calls Tryd.prog 19 #[.string ⟨s.toArray⟩] w fun e w' => e = .returned (.bool b) ∧ w' = w := h ▸ blanks_any s hs w
theorem cov_len {s : List UInt8} {l : List (Nat × List UInt8)} (h : Cov s l) : ∀ k, k ≤ l.length → k ≤ ends (l.take k)
  | 0, _ => Nat.zero_le _
  | k + 1, hk => by
    have ih := cov_len h k (by omega)
    have hC := h k (l[k]'(by omega)) (List.getElem?_eq_getElem (by omega))
    rw [List.take_succ_eq_append_getElem (by omega), ends_snoc]
    have h1 := hC.1
    have h2 := hC.2.1
    omega
theorem covered_len {s : List UInt8} {l : List (Nat × List UInt8)} (h : Covered s (.ok l)) : l.length ≤ s.length := by
  have h1 := cov_len h.1 l.length (Nat.le_refl _)
  rw [List.take_of_length_le (Nat.le_refl _)] at h1
  have h2 := h.2.1
  omega
set_option maxHeartbeats 4000000 in
set_option maxRecDepth 100000 in
theorem wordsCover_any (s : List UInt8) (hs : s.length ≤ 1048576) (c0 : UInt8) (w : World) (hg : ErrTab w) :
    Calls Tryd.prog 5 #[.string ⟨s.toArray⟩, .int .u8 c0.toNat] w fun e w' => e = .returned (.bool true) ∧ Below w.heap.size w w' := by
  have HG := Lib.hid hg
  clear hg
  have hcv := split_covered s c0
  cases hsp : split s c0 with
  | error q =>
    rw [hsp] at hcv
    obtain ⟨hq1, hq2⟩ := hcv
    have HSP := Lib.hid hsp
    clear hsp
    have hidx := run_index_list Tryd.underlying9 s q hq1
    generalize s.getD q 0 = c at hidx hq2
    have q1 : (((c.toNat : Int) == 34) = true ∨ ((c.toNat : Int) == 34) = false ∧ ((c.toNat : Int) == 39) = true) := by
      rcases hq2 with rfl | rfl
      · exact .inr ⟨rfl, rfl⟩
      · exact .inl rfl
    clear hq2
    rcases q1 with q1 | ⟨q1, q2⟩
    all_goals
      go_enter Tryd.func5, Tryd.ntmps5
      go_wp2_with fail
      refine (split_err HSP.out (by omega) _).mono ?_
      rintro e1 w1 ⟨rfl, hb1⟩
      have B1 := Lib.hid hb1
      clear hb1
      have hne := eql_nil_iface 57 (.agg #[.int .i64 18, .int .i64 0, .int .i64 (q : Nat)])
      go_wp2_with fail
      refine (place_fault 18 0 q (by omega) (by omega) _ (errTab_below HG.out B1.out (errTab_lt HG.out))).mono ?_
      rintro e2 w2 ⟨rfl, hb2⟩
      have B2 := Lib.hid (B1.out.trans (hb2.mono B1.out.size))
      clear hb2 B1
      go_wp2_with fail
      refine (num_fault 18 0 q (by omega) (by omega) _).mono ?_
      rintro e3 w3 ⟨rfl, hb3⟩
      have B3 := Lib.hid (B2.out.trans (hb3.mono B2.out.size))
      clear hb3 B2
      go_wp2_with fail
      refine (works_any _ (errTab_below HG.out B3.out (errTab_lt HG.out))).mono ?_
      rintro e4 w4 ⟨rfl, hb4⟩
      have B4 := Lib.hid (B3.out.trans (hb4.mono B3.out.size))
      clear hb4 B3
      go_wp2
      go_ret
      exact ⟨rfl, B4.out⟩
  | ok l =>
    rw [hsp] at hcv
    have HSP := Lib.hid hsp
    have HCV := Lib.hid hcv
    have hll := covered_len hcv
    clear hsp hcv
    go_enter Tryd.func5, Tryd.ntmps5
    go_wp2_with fail
    refine (split_ok HSP.out (by omega) _).mono ?_
    rintro e1 w1 ⟨A, cp, rfl, hr1, hb1⟩
    have B1 := Lib.hid hb1
    have HR := Lib.hid hr1
    clear hb1 hr1
    generalize hn : l.length = n at HR hll
    have HN := Lib.hid hn
    clear hn
    go_wp2_with fail
    go_loopw [10, 11] (fun E i wr => ∃ k : Nat, k ≤ n ∧ i = .int .i64 k ∧ E = .int .i64 (ends (l.take k)) ∧ Hid (Below w1.heap.size w1 wr)) (fun _ i _ => n - (intOf i).toNat)
    case atStart => exact ⟨0, by omega, rfl, by simp [ends], Lib.hid (Below.refl _ _)⟩
    case round =>
      obtain ⟨k, hk, rfl, rfl, HW⟩ := hrel
      by_cases hlt : k < n
      · have hlk : k < l.length := by have := HN.out; omega
        have hC := HCV.out.1 k (l.getD k (0, [])) (by simp [List.getD, List.getElem?_eq_getElem hlk])
        have hE : ends (l.take (k + 1)) = (l.getD k (0, [])).1 + (l.getD k (0, [])).2.length := by
          rw [List.take_succ_eq_append_getElem hlk, ends_snoc]
          simp [List.getD, List.getElem?_eq_getElem hlk]
        obtain ⟨ad, rfl, _, g1, g2⟩ := at_word (HR.out.below HW.out) hlt
        generalize l.getD k (0, []) = x at hC hE g1 g2
        obtain ⟨a, r⟩ := x
        simp only at hE g1 g2
        have HE := Lib.hid hE
        clear hE
        generalize ends (l.take k) = E at hC
        obtain ⟨hC1, hC2, hC3, hC4, hC5, hC6, hC7⟩ := hC
        simp only at hC1 hC2 hC3 hC4 hC5 hC6 hC7
        have hs1 := fun wx => run_slice_list Tryd.underlying9 s .i64 .i64 (a : Int) ((a : Int) + r.length) a (a + r.length) rfl (by simp) (by omega) (by omega) wx
        rw [show (s.drop a).take (a + r.length - a) = r from hC4] at hs1
        have hs2 := fun wx => run_slice_list Tryd.underlying9 s .i64 .i64 (E : Int) (a : Int) E a rfl rfl (by omega) (by omega) wx
        rw [show (s.drop E).take (a - E) = cut s E a from rfl] at hs2
        have HP1 := Lib.hid hC5
        have hpl : (cut s E a).length ≤ 1048576 := by rw [cut_len hC1 (by omega)]; omega
        clear hC4 hC5
        generalize cut s E a = p at hs2 HP1 hpl
        have hs3 : ∀ wx : World, (Instr.slice 9 (.string ⟨r.toArray⟩) none (some (.int .i64 1)) none).run Tryd.prog wx = .ok (.string ⟨[r.getD 0 0].toArray⟩) wx := by
          intro wx
          rw [run_slice_string_to_if wx _ _ _ _ Tryd.underlying9, if_pos ⟨by omega, by simp only [ByteArray.size, List.size_toArray]; omega⟩]
          congr 2
          apply ByteArray.ext
          cases r with
          | nil => simp at hC2
          | cons c r => simp [ByteArray.data_extract]
        have HC2 := Lib.hid (blanks_is (s := [r.getD 0 0]) (b := false) (by simp) (by simpa using hC7))
        have HC1 := Lib.hid (blanks_is (s := p) (by omega) HP1.out)
        clear hC7 HP1 hpl
        generalize [r.getD 0 0] = p2 at hs3 HC2
        have hw1 : IntKind.i64.wrap ((a : Int) + r.length) = (a : Int) + r.length := IntWalk.i64_in _ (by omega)
        have hw2 : IntKind.i64.wrap ((s.length : Int) - r.length) = (s.length : Int) - r.length := IntWalk.i64_in _ (by omega)
        have n1 : ¬ a < E := by omega
        have n2 : decide ((r.length : Int) < 1) = false := by rw [decide_eq_false_iff_not]; omega
        have n4 : decide ((s.length : Int) - r.length < a) = false := by rw [decide_eq_false_iff_not]; omega
        by_cases hk0 : 0 < k
        · have n3 : ((a : Int) == (E : Int)) = false := by rw [beq_eq_false_iff_ne]; have := hC6 hk0; omega
          clear hC6
          go_wp2_with fail
          go_quiet ((first | (with_reducible exact Calls.quiet_of_same (HC1.out _)) | (with_reducible exact Calls.quiet_of_same (HC2.out _))))
          have HW1 := Lib.hid (below_drew HW.out (rfl : wr.drewN nq = wr.drewN nq))
          go_wp2
          go_roundw
          case rel => exact ⟨k + 1, by omega, by go_num, by rw [HE.out]; go_num, HW1⟩
          case measure => simp [intOf]; omega
        · clear hC6
          go_wp2_with fail
          go_quiet ((first | (with_reducible exact Calls.quiet_of_same (HC1.out _)) | (with_reducible exact Calls.quiet_of_same (HC2.out _))))
          have HW1 := Lib.hid (below_drew HW.out (rfl : wr.drewN nq = wr.drewN nq))
          go_wp2
          go_roundw
          case rel => exact ⟨k + 1, by omega, by go_num, by rw [HE.out]; go_num, HW1⟩
          case measure => simp [intOf]; omega
      · have hEl := HCV.out.2.1
        have hCB := HCV.out.2.2
        have hkl : l.take k = l := List.take_of_length_le (by have := HN.out; omega)
        rw [hkl]
        clear hkl
        generalize ends l = E at hEl hCB
        have hsl : ∀ wx : World, (Instr.slice 9 (.string ⟨s.toArray⟩) (some (.int .i64 (E : Int))) none none).run Tryd.prog wx = .ok (.string ⟨(s.drop E).toArray⟩) wx := by
          intro wx
          rw [run_slice_string_from_if wx _ _ _ _ Tryd.underlying9, if_pos ⟨by omega, by simp only [ByteArray.size, List.size_toArray]; omega⟩]
          congr 2
          apply ByteArray.ext
          simp [ByteArray.data_extract, List.extract, ByteArray.size]
          exact List.take_of_length_le (by simp)
        have HC := Lib.hid (blanks_is (s := s.drop E) (by rw [List.length_drop]; omega) hCB)
        clear hCB
        generalize s.drop E = p at hsl HC
        have B2 := Lib.hid (B1.out.trans (HW.out.mono B1.out.size))
        go_wp2_with fail
        refine (HC.out _).mono ?_
        rintro e2 w2 ⟨rfl, hw2⟩
        subst hw2
        go_wp2_with fail
        refine (works_any _ (errTab_below HG.out B2.out (errTab_lt HG.out))).mono ?_
        rintro e3 w3 ⟨rfl, hb3⟩
        have B3 := Lib.hid (B2.out.trans (hb3.mono B2.out.size))
        clear hb3
        go_wp2
        go_ret
        exact ⟨rfl, B3.out⟩
end Go.Proofs.YtapghojjkeegjaaDoor
