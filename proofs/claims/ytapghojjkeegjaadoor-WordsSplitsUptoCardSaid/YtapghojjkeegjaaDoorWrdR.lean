/-
  The walks of strataref13's Escape, Blank, quote, word and Split at this seat's translation: the document's words of a line.
-/
import Derived.Test.YtapghojjkeegjaaDoorWrdL
import Derived.Test.YtapghojjkeegjaaDoorWrdW
import Derived.Deep.QuietTactic
import Derived.BigQuiet
namespace Go.Proofs.YtapghojjkeegjaaDoor
open Go.RowKit Wrd
namespace Wrd
section
variable {s : List UInt8} {e : UInt8} {out : List (Nat × List UInt8)} {fr q i k j : Nat} {c d : UInt8}
theorem q_end (hc : c = 39 ∨ c = 34) (hk : k < s.length) (hd : s.getD k 0 = c) : fin s e ⟨out, qst c, fr, i, k⟩ = fin s e ⟨out, 1, fr, i, k + 1⟩ := by
  rw [fin_step (x := ⟨out, qst c, fr, i, k⟩) hk]
  unfold step
  simp only
  rw [hd]
  rcases hc with rfl | rfl
  · exact congrArg (fin s e) (stepC_2q rfl)
  · exact congrArg (fin s e) (stepC_3q rfl)
theorem q_esc (hc : c = 34) (hk : k < s.length) (hd : s.getD k 0 = d) (hn : d ≠ c) (he : d = e) : fin s e ⟨out, qst c, fr, i, k⟩ = fin s e ⟨out, qst c, fr, i, k + 2⟩ := by
  rw [fin_step (x := ⟨out, qst c, fr, i, k⟩) hk]
  unfold step
  simp only
  rw [hd]
  subst hc
  exact congrArg (fin s e) (stepC_3e hn he)
theorem q_34 (hc : c = 34) (hk : k < s.length) (hd : s.getD k 0 = d) (hn : d ≠ c) (he : d ≠ e) : fin s e ⟨out, qst c, fr, i, k⟩ = fin s e ⟨out, qst c, fr, i, k + 1⟩ := by
  rw [fin_step (x := ⟨out, qst c, fr, i, k⟩) hk]
  unfold step
  simp only
  rw [hd]
  subst hc
  exact congrArg (fin s e) (stepC_3n hn he)
theorem q_39 (hc : c = 39) (hk : k < s.length) (hd : s.getD k 0 = d) (hn : d ≠ c) : fin s e ⟨out, qst c, fr, i, k⟩ = fin s e ⟨out, qst c, fr, i, k + 1⟩ := by
  rw [fin_step (x := ⟨out, qst c, fr, i, k⟩) hk]
  unfold step
  simp only
  rw [hd]
  subst hc
  exact congrArg (fin s e) (stepC_2n hn)
theorem q_none (hc : c = 39 ∨ c = 34) (hk : s.length ≤ k) : fin s e ⟨out, qst c, fr, i, k⟩ = .error i := by
  rw [fin_done (by simp only; omega)]
  rcases hc with rfl | rfl <;> rfl
theorem w_n (hk : j < s.length) (hd : s.getD j 0 = d) (h1 : blank d = false) (h2 : d ≠ 39) (h3 : d ≠ 34) (h4 : d ≠ e) : fin s e ⟨out, 1, fr, q, j⟩ = fin s e ⟨out, 1, fr, q, j + 1⟩ := by
  rw [fin_step (x := ⟨out, 1, fr, q, j⟩) hk]
  unfold step
  simp only
  rw [hd, stepC_1, inWord_n h1 h2 h3 h4]
theorem w_e (hk : j < s.length) (hd : s.getD j 0 = d) (h1 : blank d = false) (h2 : d ≠ 39) (h3 : d ≠ 34) (h4 : d = e) : fin s e ⟨out, 1, fr, q, j⟩ = fin s e ⟨out, 1, fr, q, j + 2⟩ := by
  rw [fin_step (x := ⟨out, 1, fr, q, j⟩) hk]
  unfold step
  simp only
  rw [hd, stepC_1, inWord_e h1 h2 h3 h4]
theorem w_over (hk : s.length ≤ j) : fin s e ⟨out, 1, fr, q, j⟩ = .ok (out ++ [(fr, s.drop fr)]) := by
  rw [fin_done (by simp only; omega)]; simp [told]
theorem w_q (hk : j < s.length) (hd : s.getD j 0 = d) (h1 : blank d = false) (h2 : d = 39 ∨ d = 34) : fin s e ⟨out, 1, fr, q, j⟩ = fin s e ⟨out, qst d, fr, j, j + 1⟩ := by
  rw [fin_step (x := ⟨out, 1, fr, q, j⟩) hk]
  unfold step
  simp only
  rw [hd, stepC_1]
  rcases h2 with rfl | rfl
  · rw [inWord_39 h1 rfl]; rfl
  · rw [inWord_34 h1 (by decide) rfl]; rfl
theorem w_b (hk : j < s.length) (hd : s.getD j 0 = d) (h1 : blank d = true) : fin s e ⟨out, 1, fr, q, j⟩ = fin s e ⟨out ++ [(fr, cut s fr j)], 0, 0, 0, j⟩ := by
  rw [fin_blank s e hk (by rw [hd]; exact h1), fin_step (x := ⟨out, 1, fr, q, j⟩) hk]
  unfold step
  simp only
  rw [hd, stepC_1, inWord_b h1]
  exact fin_fr _ _ _ _ _ _ _ _ _ (Nat.le_refl _)
theorem z_over (hk : s.length ≤ j) : fin s e ⟨out, 0, fr, q, j⟩ = .ok out := by
  rw [fin_done (by simp only; omega)]; simp [told]
end
end Wrd

theorem Escape_any (c : UInt8) (w : World) : Calls Tryd.prog 22 #[.int .u8 c.toNat] w fun e w' => e = .returned (.int .u8 (escOf c).toNat) ∧ w = w' := by
  by_cases h : c.toNat = 96
  · have hc : escOf c = 96 := by unfold escOf; rw [if_pos (UInt8.toNat_inj.1 (by simpa using h))]
    have HC := Lib.hid hc
    clear hc
    go_enter Tryd.func22, Tryd.ntmps22
    go_wp2
    go_ret
    exact ⟨by rw [HC.out]; first | rfl | (simp [h]; done) | (simp [h]; rfl), rfl⟩
  · have hc : escOf c = 92 := by unfold escOf; rw [if_neg (fun e => h (by rw [e]; rfl))]
    have HC := Lib.hid hc
    clear hc
    go_enter Tryd.func22, Tryd.ntmps22
    go_wp2
    go_ret
    exact ⟨by rw [HC.out]; rfl, rfl⟩
theorem blank_yes {c : UInt8} (h : c.toNat = 32 ∨ c.toNat = 9 ∨ c.toNat = 13) : Wrd.blank c = true := by
  rcases h with h | h | h
  · rw [show c = 32 from UInt8.toNat_inj.1 h]; rfl
  · rw [show c = 9 from UInt8.toNat_inj.1 h]; rfl
  · rw [show c = 13 from UInt8.toNat_inj.1 h]; rfl
theorem blank_no {c : UInt8} (h1 : ¬ c.toNat = 32) (h2 : ¬ c.toNat = 9) (h3 : ¬ c.toNat = 13) : Wrd.blank c = false := by
  have e1 : (c == 32) = false := by rw [beq_eq_false_iff_ne]; intro e; exact h1 (by rw [e]; rfl)
  have e2 : (c == 9) = false := by rw [beq_eq_false_iff_ne]; intro e; exact h2 (by rw [e]; rfl)
  have e3 : (c == 13) = false := by rw [beq_eq_false_iff_ne]; intro e; exact h3 (by rw [e]; rfl)
  unfold Wrd.blank
  rw [e1, e2, e3]; rfl
theorem Blank_any (c : UInt8) (w : World) : Calls Tryd.prog 23 #[.int .u8 c.toNat] w fun e w' => e = .returned (.bool (Wrd.blank c)) ∧ w = w' := by
  by_cases h1 : c.toNat = 32
  · have HB := Lib.hid (blank_yes (.inl h1))
    have q1 : ((c.toNat : Int) == 32) = true := by rw [beq_iff_eq]; omega
    clear h1
    go_enter Tryd.func23, Tryd.ntmps23
    go_wp2
    go_ret
    exact ⟨by rw [HB.out]; rfl, rfl⟩
  · have q1 : ((c.toNat : Int) == 32) = false := by rw [beq_eq_false_iff_ne]; omega
    by_cases h2 : c.toNat = 9
    · have HB := Lib.hid (blank_yes (.inr (.inl h2)))
      have q2 : ((c.toNat : Int) == 9) = true := by rw [beq_iff_eq]; omega
      clear h1 h2
      go_enter Tryd.func23, Tryd.ntmps23
      go_wp2
      go_ret
      exact ⟨by rw [HB.out]; rfl, rfl⟩
    · have q2 : ((c.toNat : Int) == 9) = false := by rw [beq_eq_false_iff_ne]; omega
      by_cases h3 : c.toNat = 13
      · have HB := Lib.hid (blank_yes (.inr (.inr h3)))
        have q3 : ((c.toNat : Int) == 13) = true := by rw [beq_iff_eq]; omega
        clear h1 h2 h3
        go_enter Tryd.func23, Tryd.ntmps23
        go_wp2
        go_ret
        exact ⟨by rw [HB.out]; rfl, rfl⟩
      · have HB := Lib.hid (blank_no h1 h2 h3)
        have q3 : ((c.toNat : Int) == 13) = false := by rw [beq_eq_false_iff_ne]; omega
        clear h1 h2 h3
        go_enter Tryd.func23, Tryd.ntmps23
        go_wp2
        go_ret
        exact ⟨by rw [HB.out]; rfl, rfl⟩

/-- What quote leaves. -/
def QuotePost (s : List UInt8) (e : UInt8) (i : Nat) (w : World) (x : Ending) (w' : World) : Prop := ∃ (r : Int) (n : Nat), x = .returned (.int .i64 r) ∧ QuoteEnd s e i r ∧ w' = w.drewN n
set_option maxHeartbeats 1000000 in
theorem quote_any (s : List UInt8) (hs : s.length ≤ 4398046511104) (e : UInt8) (i : Nat) (hi : i < s.length) (hq : s.getD i 0 = 39 ∨ s.getD i 0 = 34) (w : World) :
    Calls Tryd.prog 33 #[.string ⟨s.toArray⟩, .int .i64 i, .int .u8 e.toNat] w (QuotePost s e i w) := by
  have HQE : Hid (∀ r : Int, (r = -1 ∧ ∀ out fr, fin s e ⟨out, qst (s.getD i 0), fr, i, i + 1⟩ = .error i) ∨ (∃ k : Nat, r = k ∧ i < k ∧ k < s.length ∧ ∀ out fr, fin s e ⟨out, qst (s.getD i 0), fr, i, i + 1⟩ = fin s e ⟨out, 1, fr, i, k + 1⟩) → QuoteEnd s e i r) := Lib.hid fun _ h => h
  have hidx := run_index_list Tryd.underlying9 s i hi
  generalize hc : s.getD i 0 = c at hq hidx HQE
  have HC := Lib.hid hc
  have HQ := Lib.hid hq
  clear hc hq
  go_enter Tryd.func33, Tryd.ntmps33
  go_wp2_with fail
  go_loopw [7] (fun u wr => ∃ k n : Nat, i < k ∧ k ≤ s.length + 1 ∧ u = .int .i64 k ∧ Hid (∀ out fr, fin s e ⟨out, qst c, fr, i, i + 1⟩ = fin s e ⟨out, qst c, fr, i, k⟩) ∧ Hid (wr = w.drewN n)) (fun u _ => s.length + 1 - (intOf u).toNat)
  case atStart => exact ⟨i + 1, 0, by omega, by omega, by go_num, Lib.hid fun _ _ => rfl, Lib.hid rfl⟩
  case round =>
    obtain ⟨k, n, hk1, hk2, rfl, HF, HW⟩ := hrel
    by_cases hlt : k < s.length
    · have hidy := run_index_list Tryd.underlying9 s k hlt
      generalize hd : s.getD k 0 = d at hidy
      have HD := Lib.hid hd
      clear hd
      by_cases hdc : d.toNat = c.toNat
      · have H1 := Lib.hid (show d = c from UInt8.toNat_inj.1 hdc)
        have q1 : ((d.toNat : Int) == (c.toNat : Int)) = true := by rw [beq_iff_eq]; omega
        clear hdc
        go_wp2_with fail
        go_quiet (fail)
        go_wp2
        go_ret
        exact ⟨k, _, rfl, HQE.out _ (.inr ⟨k, rfl, hk1, hlt, fun out fr => (HF.out out fr).trans (q_end HQ.out hlt (HD.out.trans H1.out))⟩), by rw [HW.out, World.drewN_drewN]⟩
      · have N1 := Lib.hid (show d ≠ c from fun h => hdc (by rw [h]))
        have q1 : ((d.toNat : Int) == (c.toNat : Int)) = false := by rw [beq_eq_false_iff_ne]; omega
        clear hdc
        by_cases h34 : c.toNat = 34
        · have H34 := Lib.hid (show c = 34 from UInt8.toNat_inj.1 h34)
          have q2 : ((c.toNat : Int) == 34) = true := by rw [beq_iff_eq]; omega
          clear h34
          by_cases hde : d.toNat = e.toNat
          · have HE := Lib.hid (show d = e from UInt8.toNat_inj.1 hde)
            have q3 : ((d.toNat : Int) == (e.toNat : Int)) = true := by rw [beq_iff_eq]; omega
            clear hde
            go_wp2_with fail
            go_quiet (fail)
            go_wp2
            go_roundw
            case rel => exact ⟨k + 2, n + nq, by omega, by omega, by go_num, Lib.hid fun out fr => (HF.out out fr).trans (q_esc H34.out hlt HD.out N1.out HE.out), Lib.hid (by rw [HW.out, World.drewN_drewN])⟩
            case measure => simp [intOf]; omega
          · have NE := Lib.hid (show d ≠ e from fun h => hde (by rw [h]))
            have q3 : ((d.toNat : Int) == (e.toNat : Int)) = false := by rw [beq_eq_false_iff_ne]; omega
            clear hde
            go_wp2_with fail
            go_quiet (fail)
            go_wp2
            go_roundw
            case rel => exact ⟨k + 1, n + nq, by omega, by omega, by go_num, Lib.hid fun out fr => (HF.out out fr).trans (q_34 H34.out hlt HD.out N1.out NE.out), Lib.hid (by rw [HW.out, World.drewN_drewN])⟩
            case measure => simp [intOf]; omega
        · have H39 := Lib.hid (show c = 39 from HQ.out.resolve_right (fun h => h34 (by rw [h]; rfl)))
          have q2 : ((c.toNat : Int) == 34) = false := by rw [beq_eq_false_iff_ne]; omega
          clear h34
          go_wp2_with fail
          go_quiet (fail)
          go_wp2
          go_roundw
          case rel => exact ⟨k + 1, n + nq, by omega, by omega, by go_num, Lib.hid fun out fr => (HF.out out fr).trans (q_39 H39.out hlt HD.out N1.out), Lib.hid (by rw [HW.out, World.drewN_drewN])⟩
          case measure => simp [intOf]; omega
    · go_wp2
      go_ret
      exact ⟨-1, n, rfl, HQE.out _ (.inl ⟨rfl, fun out fr => (HF.out out fr).trans (q_none HQ.out (by omega))⟩), HW.out⟩

/-- What word leaves. -/
def WordPost (s : List UInt8) (e : UInt8) (i : Nat) (w : World) (x : Ending) (w' : World) : Prop := ∃ (j : Nat) (ok : Bool) (n : Nat), x = .returned (.tuple #[.int .i64 j, .bool ok]) ∧ WordEnd s e i j ok ∧ w' = w.drewN n
set_option maxHeartbeats 1000000 in
theorem word_any (s : List UInt8) (hs : s.length ≤ 4398046511104) (e : UInt8) (i : Nat) (hi : i < s.length) (hb : Wrd.blank (s.getD i 0) = false) (w : World) :
    Calls Tryd.prog 24 #[.string ⟨s.toArray⟩, .int .i64 i, .int .u8 e.toNat] w (WordPost s e i w) := by
  have HB := Lib.hid hb
  clear hb
  go_enter Tryd.func24, Tryd.ntmps24
  go_wp2_with fail
  go_loopw [1] (fun u wr => ∃ j n : Nat, i ≤ j ∧ j ≤ s.length ∧ u = .int .i64 j ∧ Hid (∀ out, fin s e ⟨out, 1, i, i, i⟩ = fin s e ⟨out, 1, i, i, j⟩) ∧ Hid (wr = w.drewN n)) (fun u _ => s.length - (intOf u).toNat)
  case atStart => exact ⟨i, 0, by omega, by omega, rfl, Lib.hid fun _ => rfl, Lib.hid rfl⟩
  case round =>
    obtain ⟨j, n, hj1, hj2, rfl, HF, HW⟩ := hrel
    by_cases hlt : j < s.length
    · have hidx := run_index_list Tryd.underlying9 s j hlt
      have HQA := Lib.hid (quote_any s hs e j hlt)
      generalize hd : s.getD j 0 = d at hidx HQA
      have HD := Lib.hid hd
      clear hd
      cases hbl : Wrd.blank d
      · have HBL := Lib.hid hbl
        have HBC : Hid (∀ w, Calls Tryd.prog 23 #[.int .u8 d.toNat] w fun e w' => e = .returned (.bool false) ∧ w = w') := Lib.hid (hbl ▸ Blank_any d)
        clear hbl
        by_cases hq : d.toNat = 39 ∨ d.toNat = 34
        · have hdq : d = 39 ∨ d = 34 := hq.imp (fun h => UInt8.toNat_inj.1 h) (fun h => UInt8.toNat_inj.1 h)
          have HDQ := Lib.hid hdq
          clear hdq
          have fin1 : Hid (∀ out, fin s e ⟨out, 1, i, i, i⟩ = fin s e ⟨out, qst d, i, j, j + 1⟩) := Lib.hid fun out => (HF.out out).trans (w_q hlt HD.out HBL.out HDQ.out)
          have h1 : ∃ b, ((d.toNat : Int) == 39) = b ∧ (b = false → ((d.toNat : Int) == 34) = true) := ⟨_, rfl, fun h => by rw [beq_eq_false_iff_ne] at h; rw [beq_iff_eq]; omega⟩
          obtain ⟨b, q1, q2⟩ := h1
          clear hq
          cases b
          all_goals
            simp only [reduceCtorEq, false_implies, forall_const] at q2
            go_wp2_with fail
            refine (HBC.out _).mono ?_
            rintro e1 w1 ⟨rfl, rfl⟩
            go_wp2_with fail
            refine (HQA.out HDQ.out _).mono ?_
            rintro e2 w2 ⟨r, m, rfl, hqe, hw2⟩
            have HW2 := Lib.hid hw2
            clear hw2
            rcases hqe with ⟨rfl, hf⟩ | ⟨k, rfl, hk1, hk2, hf⟩
            · have HF2 := Lib.hid hf
              clear hf
              go_wp2
              go_ret2
              exact ⟨j, false, n + m, rfl, .inr ⟨rfl, fun out => (fin1.out out).trans (by have := HF2.out out i; rwa [HD.out] at this)⟩, by rw [HW2.out, HW.out, World.drewN_drewN]⟩
            · have HF2 : Hid (∀ out, fin s e ⟨out, qst d, i, j, j + 1⟩ = fin s e ⟨out, 1, i, j, k + 1⟩) := Lib.hid fun out => (by have := hf out i; rwa [HD.out] at this)
              clear hf
              go_wp2
              go_roundw
              case rel => exact ⟨k + 1, n + m, by omega, by omega, by go_num, Lib.hid fun out => (fin1.out out).trans ((HF2.out out).trans (fin_q s e _ _ _ _ _ _ _ (Nat.le_refl _) (Nat.le_refl _))), Lib.hid (by rw [HW2.out, HW.out, World.drewN_drewN])⟩
              case measure => simp [intOf]; omega
        · have N39 := Lib.hid (show d ≠ 39 from fun h => hq (.inl (by rw [h]; rfl)))
          have N34 := Lib.hid (show d ≠ 34 from fun h => hq (.inr (by rw [h]; rfl)))
          have q1 : ((d.toNat : Int) == 39) = false := by rw [beq_eq_false_iff_ne]; omega
          have q2 : ((d.toNat : Int) == 34) = false := by rw [beq_eq_false_iff_ne]; omega
          clear hq
          by_cases hde : d.toNat = e.toNat
          · have HE := Lib.hid (show d = e from UInt8.toNat_inj.1 hde)
            have q3 : ((d.toNat : Int) == (e.toNat : Int)) = true := by rw [beq_iff_eq]; omega
            clear hde
            by_cases hl2 : j + 1 < s.length
            · go_wp2_with fail
              refine (HBC.out _).mono ?_
              rintro e1 w1 ⟨rfl, rfl⟩
              go_wp2
              go_roundw
              case rel => exact ⟨j + 2, n, by omega, by omega, by go_num, Lib.hid fun out => (HF.out out).trans (w_e hlt HD.out HBL.out N39.out N34.out HE.out), HW⟩
              case measure => simp [intOf]; omega
            · go_wp2_with fail
              refine (HBC.out _).mono ?_
              rintro e1 w1 ⟨rfl, rfl⟩
              go_wp2
              go_roundw
              case rel => exact ⟨j + 1, n, by omega, by omega, by go_num, Lib.hid fun out => (HF.out out).trans ((w_e hlt HD.out HBL.out N39.out N34.out HE.out).trans ((w_over (by omega)).trans (w_over (by omega)).symm)), HW⟩
              case measure => simp [intOf]; omega
          · have NE := Lib.hid (show d ≠ e from fun h => hde (by rw [h]))
            have q3 : ((d.toNat : Int) == (e.toNat : Int)) = false := by rw [beq_eq_false_iff_ne]; omega
            clear hde
            go_wp2_with fail
            refine (HBC.out _).mono ?_
            rintro e1 w1 ⟨rfl, rfl⟩
            go_wp2
            go_roundw
            case rel => exact ⟨j + 1, n, by omega, by omega, by go_num, Lib.hid fun out => (HF.out out).trans (w_n hlt HD.out HBL.out N39.out N34.out NE.out), HW⟩
            case measure => simp [intOf]; omega
      · have HBL := Lib.hid hbl
        have HBC : Hid (∀ w, Calls Tryd.prog 23 #[.int .u8 d.toNat] w fun e w' => e = .returned (.bool true) ∧ w = w') := Lib.hid (hbl ▸ Blank_any d)
        clear hbl
        have HJ : Hid (i < j) := Lib.hid (by
          rcases Nat.lt_or_ge i j with h | h
          · exact h
          · have : i = j := by omega
            have h1 := HB.out
            rw [this, HD.out, HBL.out] at h1; cases h1)
        go_wp2_with fail
        refine (HBC.out _).mono ?_
        rintro e1 w1 ⟨rfl, rfl⟩
        go_wp2
        go_ret2
        exact ⟨j, true, n, rfl, .inl ⟨rfl, HJ.out, hj2, fun out => (HF.out out).trans (w_b hlt HD.out HBL.out)⟩, HW.out⟩
    · go_wp2
      go_ret2
      exact ⟨j, true, n, rfl, .inl ⟨rfl, by omega, hj2, fun out => (HF.out out).trans ((w_over (by omega)).trans ((z_over (by omega)).trans (by rw [cut_all (by omega)])).symm)⟩, HW.out⟩

/-- What the document's Split leaves. -/
def RefPost (s : List UInt8) (c : UInt8) (w : World) (e : Ending) (w' : World) : Prop :=
  (∃ l v, split s c = .ok l ∧ e = .returned (.tuple #[v, .int .i64 0, .int .i64 0]) ∧ w'.ownsRow w.heap.size 41 2 v l.length (wd l) ∧ Below w.heap.size w w') ∨
  (∃ q : Nat, split s c = .error q ∧ e = .returned (.tuple #[.slice none 0 0, .int .i64 18, .int .i64 q]) ∧ Below w.heap.size w w')
theorem below_drew {B n : Nat} {a w w' : World} (h : Below B a w) (e : w' = w.drewN n) : Below B a w' := by subst e; exact ⟨h.os, h.tape, h.output, h.size, h.block⟩
set_option maxHeartbeats 2000000 in
set_option maxRecDepth 100000 in
theorem RefSplit_any (s : List UInt8) (hs : s.length ≤ 4398046511104) (c0 : UInt8) (w : World) :
    Calls Tryd.prog 9 #[.string ⟨s.toArray⟩, .int .u8 c0.toNat] w (RefPost s c0 w) := by
  obtain ⟨i0, hi0, hz0, hz1, hz2⟩ := info_parts infoWord
  go_enter Tryd.func9, Tryd.ntmps9
  go_wp2_with fail
  refine (Escape_any c0 _).mono ?_
  rintro e w' ⟨rfl, rfl⟩
  go_wp2_with fail
  go_loopw [8, 9] (fun v i wr => ∃ (out : List (Nat × List UInt8)) (k : Nat), k ≤ s.length ∧ out.length ≤ k ∧ i = .int .i64 k ∧ Hid (split s c0 = fin s (escOf c0) ⟨out, 0, 0, 0, k⟩) ∧ Hid (wr.ownsRow w.heap.size 41 2 v out.length (wd out)) ∧ Hid (Below w.heap.size w wr)) (fun _ i _ => s.length - (intOf i).toNat)
  case atStart => exact ⟨[], 0, by omega, by simp, rfl, Lib.hid rfl, Lib.hid (World.ownsRow_nil _ _ _ _), Lib.hid (Below.refl _ _)⟩
  case round =>
    obtain ⟨out, k, hk, hol, rfl, HF, HO, HW⟩ := hrel
    by_cases hlt : k < s.length
    · have hidx := run_index_list Tryd.underlying9 s k hlt
      have HWA := Lib.hid (word_any s hs (escOf c0) k hlt)
      have HBS := Lib.hid (fin_blank s (escOf c0) (out := out) (fr := 0) (q := 0) hlt)
      have HWS := Lib.hid (fin_word s (escOf c0) (out := out) (fr := 0) (q := 0) hlt)
      generalize hd : s.getD k 0 = d at hidx HWA HBS HWS
      clear hd
      cases hbl : Wrd.blank d
      · have HBL := Lib.hid hbl
        have HBC : Hid (∀ w, Calls Tryd.prog 23 #[.int .u8 d.toNat] w fun e w' => e = .returned (.bool false) ∧ w = w') := Lib.hid (hbl ▸ Blank_any d)
        clear hbl
        go_wp2_with fail
        refine (HBC.out _).mono ?_
        rintro e1 w1 ⟨rfl, rfl⟩
        go_wp2_with fail
        refine (HWA.out HBL.out _).mono ?_
        rintro e2 w2 ⟨j, ok, n, rfl, hwe, hw2⟩
        have HO2 : Hid (w2.ownsRow w.heap.size 41 2 u8 out.length (wd out)) := Lib.hid (by rw [hw2]; exact HO.out)
        have HW2 := Lib.hid (below_drew HW.out hw2)
        clear hw2 HO HW
        rcases hwe with ⟨rfl, hj1, hj2, hf⟩ | ⟨rfl, hf⟩
        · have HS : Hid (split s c0 = fin s (escOf c0) ⟨out ++ [(k, cut s k j)], 0, 0, 0, j⟩) := Lib.hid (HF.out.trans ((HWS.out HBL.out).trans (hf out)))
          clear hf
          have hsl := fun wx => run_slice_list Tryd.underlying9 s .i64 .i64 (k : Int) (j : Int) k j rfl rfl (by omega) (by omega) wx
          rw [show (s.drop k).take (j - k) = cut s k j from rfl] at hsl
          generalize cut s k j = p at hsl HS
          go_wp2_with (at_builtin; refine wpList_append_own _ rfl _ _ 22 rfl w.heap.size 41 i0 (.agg #[.int .i64 0, .string .empty]) 2 24 Tryd.underlying22 hi0 hz0 hz1 hz2 rfl (by decide) _ _ _ rfl (HO2.out.alloc _) ⟨w2.heap.size, 0, none⟩ 1 1 [.int .i64 k, .string ⟨p.toArray⟩] rfl rfl (two_new _ _ _ _) (by intro x hx; simp at hx; rcases hx with rfl | rfl <;> rfl) (by unfold maxLen; omega) (by omega) (by have := HW2.out.size; simp; omega) ?_; intro v1 w3 hown1 hgrow1 hnil1)
          have hB1 : Hid (Below w.heap.size w w3) := Lib.hid (Below.grown (HW2.out.alloc HW2.out.size _) hgrow1 (by have := HW2.out.size; simp; omega) (fun j hj => (HO2.out.lt j hj).1))
          clear hgrow1 hnil1
          go_wp2
          go_roundw
          case rel => exact ⟨out ++ [(k, p)], j, by omega, by simp; omega, rfl, HS, Lib.hid (by simpa [wd] using hown1), hB1⟩
          case measure => simp [intOf]; omega
        · have HS : Hid (split s c0 = .error j) := Lib.hid (HF.out.trans ((HWS.out HBL.out).trans (hf out)))
          clear hf
          go_wp2
          go_ret3
          exact .inr ⟨j, HS.out, rfl, HW2.out⟩
      · have HBL := Lib.hid hbl
        have HBC : Hid (∀ w, Calls Tryd.prog 23 #[.int .u8 d.toNat] w fun e w' => e = .returned (.bool true) ∧ w = w') := Lib.hid (hbl ▸ Blank_any d)
        clear hbl
        go_wp2_with fail
        refine (HBC.out _).mono ?_
        rintro e1 w1 ⟨rfl, rfl⟩
        go_wp2
        go_roundw
        case rel => exact ⟨out, k + 1, by omega, by omega, by go_num, Lib.hid (HF.out.trans (HBS.out HBL.out)), HO, HW⟩
        case measure => simp [intOf]; omega
    · go_wp2
      go_ret3
      exact .inl ⟨out, _, HF.out.trans (z_over (by omega)), rfl, HO.out, HW.out⟩
end Go.Proofs.YtapghojjkeegjaaDoor
