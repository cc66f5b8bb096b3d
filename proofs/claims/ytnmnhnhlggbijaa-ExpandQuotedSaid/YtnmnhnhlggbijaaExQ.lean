/-
  The walk of the law ExpandQuoted at this seat's translation.
-/
import Derived.Test.YtnmnhnhlggbijaaExpX
import Derived.Test.YtnmnhnhlggbijaaWrdQ
import Derived.Test.YtnmnhnhlggbijaaSmt
namespace Go.Proofs.Ytnmnhnhlggbijaa
open Go.RowKit
namespace Exp
open T

theorem plain_ne (c : UInt8) : Wrd.plainB c = true → c ≠ 92 ∧ c ≠ 96 ∧ c ≠ 36 ∧ c ≠ 34 ∧ c ≠ 39 :=
  Wrd.all8 (P := fun c => Wrd.plainB c = true → c ≠ 92 ∧ c ≠ 96 ∧ c ≠ 36 ∧ c ≠ 34 ∧ c ≠ 39) (by decide +kernel) c
theorem rd_quote (s : List UInt8) (e : UInt8) (he : e = 92 ∨ e = 96) : Rd e .plain (Wrd.quote s e) (.ok (lits s .nil) []) := by
  have hee : Wrd.escOf e = e := by rcases he with rfl | rfl <;> rfl
  unfold Wrd.quote
  rw [hee]
  split
  · rename_i hb
    unfold Wrd.bare at hb
    have hall : ∀ c ∈ s, Wrd.plainB c = true := by
      have := (Bool.and_eq_true_iff.1 hb).2
      exact fun c hc => List.all_eq_true.1 this c hc
    refine rd_plain s fun c hc => ?_
    obtain ⟨h1, h2, h3, h4, h5⟩ := plain_ne c (hall c hc)
    exact ⟨by rcases he with rfl | rfl <;> assumption, h3, h4, h5⟩
  · have := rd_inquotes (e := e) (by rcases he with rfl | rfl <;> decide) s
    unfold Wrd.quoted
    exact this
theorem quote_len (s : List UInt8) (e : UInt8) : (Wrd.quote s e).length ≤ 2 * s.length + 2 := by
  unfold Wrd.quote
  split
  · omega
  · unfold Wrd.quoted
    have := Wrd.esc_len (Wrd.escOf e) s
    simp only [List.length_append, List.length_cons, List.length_nil]; omega
set_option maxHeartbeats 4000000 in
set_option maxRecDepth 100000 in
theorem expandQuoted_any (s : List UInt8) (back : Bool) (A : Option Addr) (n c : Nat) (vars : List (List UInt8 × List UInt8)) (w : World) (hr : Reads w w.heap.size 2 A n (px vars)) (hv : PxLe 140737488355328 vars) :
    Calls Try.prog 5 #[.string ⟨s.toArray⟩, .bool back, .slice A n c] w fun x w' => x = .returned (.bool true) ∧ Below w.heap.size w w' := by
  by_cases hs : s.length ≤ 65536
  · have b0 : decide ((65536 : Int) < (s.length : Int)) = false := by rw [decide_eq_false_iff_not]; omega
    by_cases hn : n ≤ 4096
    · have b1 : decide ((4096 : Int) < (n : Int)) = false := by rw [decide_eq_false_iff_not]; omega
      obtain ⟨e, he, hb⟩ : ∃ e : UInt8, (e = 92 ∨ e = 96) ∧ e = if back then 96 else 92 := by cases back; exact ⟨92, .inl rfl, rfl⟩; exact ⟨96, .inr rfl, rfl⟩
      have hl := quote_len s e
      have H1 := Lib.hid (fun w1 => Quote_any s (by omega) e w1)
      have H2 := Lib.hid (fun w1 (hb : Below w.heap.size w w1) => word_any (Wrd.quote s e) e A n c vars _ w1 (by omega) (by omega) ((hr.below hb).more hb.size) hv (rd_quote s e he))
      unfold ToldPost at H2
      rw [told_ok, val_lits, if_pos (by simpa [T.val] using hs)] at H2
      have hsv : s ++ T.val (valOf vars) .nil = s := by simp [T.val]
      rw [hsv] at H2
      generalize Wrd.quote s e = q at H1 H2
      have hq := fun wx => eq_texts s s wx
      rw [decide_eq_true rfl] at hq
      clear hr hv hl hsv he
      simp only [errV, if_true] at H2
      cases back
      all_goals
        obtain rfl := hb
        go_enter Try.func5, Try.ntmps5
        go_wp2_with fail
        refine (H1.out _).mono ?_
        rintro x w1 ⟨rfl, hb1⟩
        have B1 := Lib.hid hb1
        clear hb1
        go_wp2_with fail
        refine (H2.out _ B1.out).mono ?_
        rintro x w2 ⟨rfl, hb2⟩
        have B2 := Lib.hid (B1.out.trans (hb2.mono B1.out.size))
        clear hb2
        go_wp2_with fail
        refine (works_any _).mono ?_
        rintro x w3 ⟨rfl, hb3⟩
        have B3 := Lib.hid (B2.out.trans (hb3.mono B2.out.size))
        clear hb3
        go_wp2_with fail
        go_ret
        exact ⟨rfl, B3.out⟩
    · have b1 : decide ((4096 : Int) < (n : Int)) = true := by rw [decide_eq_true_iff]; omega
      clear hr hv
      go_enter Try.func5, Try.ntmps5
      go_wp2_with fail
      go_ret
      exact ⟨rfl, Below.refl _ _⟩
  · have b0 : decide ((65536 : Int) < (s.length : Int)) = true := by rw [decide_eq_true_iff]; omega
    clear hr hv
    go_enter Try.func5, Try.ntmps5
    go_wp2_with fail
    go_ret
    exact ⟨rfl, Below.refl _ _⟩
end Exp
end Go.Proofs.Ytnmnhnhlggbijaa
