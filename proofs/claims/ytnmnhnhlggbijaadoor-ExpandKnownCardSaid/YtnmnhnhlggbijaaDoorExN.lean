/-
  The walk of the law ExpandNames at this seat's translation.
-/
import Derived.Test.YtnmnhnhlggbijaaDoorExpX
import Derived.Test.YtnmnhnhlggbijaaDoorRfN
import Derived.Test.YtnmnhnhlggbijaaDoorApT
namespace Go.Proofs.YtnmnhnhlggbijaaDoor
open Go.RowKit
namespace Exp
open T

theorem own_ne_of {w : World} {B2 : Nat} {v1 v2 : Value} {l2 : List (List UInt8)} {H : Nat} (hlt : ∀ b, v1.ownBlock = some b → b < H) (h2 : Own9 w B2 v2 l2) (hB : H ≤ B2) : v1.ownBlock = none ∨ v1.ownBlock ≠ v2.ownBlock := by
  rcases hv : v1.ownBlock with _ | b
  · exact .inl rfl
  · refine .inr fun e => ?_
    have := (own_lt h2 e.symm).1
    have := hlt b hv
    omega
theorem own_ne_of' {w : World} {B2 : Nat} {v1 v2 : Value} {l2 : List (List UInt8)} {H : Nat} (hlt : ∀ b, v1.ownBlock = some b → b < H) (h2 : Own9 w B2 v2 l2) (hB : H ≤ B2) : v2.ownBlock = none ∨ v2.ownBlock ≠ v1.ownBlock := by
  rcases hv : v2.ownBlock with _ | b
  · exact .inl rfl
  · refine .inr fun e => ?_
    have := (own_lt h2 hv).1
    have := hlt b e.symm
    omega
theorem same_texts9 {w : World} {A A' : Option Addr} {n c n' c' B B' : Nat} {l : List (List UInt8)} (hr : Reads w B 1 A n (tx l)) (hr' : Reads w B' 1 A' n' (tx l)) (hB : B ≤ w.heap.size) (hB' : B' ≤ w.heap.size) (hn : n ≤ 140737488355328) (hn' : n' ≤ 140737488355328) :
    Calls Tryd.prog 53 #[.slice A n c, .slice A' n' c'] w fun e w' => e = .returned (.bool true) ∧ Below w.heap.size w w' :=
  (SameTexts_any A A' n c n' c' B B' l l w hr hr' hB hB' hn hn').mono fun _ _ ⟨h1, h2⟩ => ⟨by rw [h1, decide_eq_true rfl], h2⟩
set_option maxHeartbeats 4000000 in
set_option maxRecDepth 100000 in
theorem expandNames_any (s : List UInt8) (e : UInt8) (w : World) : Calls Tryd.prog 33 #[.string ⟨s.toArray⟩, .int .u8 e.toNat] w fun x w' => x = .returned (.bool true) ∧ Below w.heap.size w w' := by
  by_cases hs : s.length ≤ 131072
  · obtain ⟨O, hO⟩ := Rd.is e .plain s
    have H1 := Lib.hid (fun w1 => namesR_any s e O w1 (by omega) hO)
    have H2 := Lib.hid (fun w1 => names_any s e O w1 (by omega) hO)
    have hln : (toldNames O).length ≤ 131072 := by
      cases O with
      | err no => simp [toldNames]
      | ok t r => have := mets_len [] t.nms; have := nms_wt t; have := hO.wt; simp only [toldNames]; have h0 : ([] : List (List UInt8)).length = 0 := rfl; omega
    have b0 : decide ((131072 : Int) < (s.length : Int)) = false := by rw [decide_eq_false_iff_not]; omega
    unfold NmsPost at H1 H2
    generalize toldNames O = l at H1 H2 hln
    clear hO
    go_enter Tryd.func33, Tryd.ntmps33
    go_wp2_with fail
    refine (H1.out _).mono ?_
    rintro x w1 ⟨v1, rfl, ho1, hb1⟩
    obtain ⟨A1, c1, rfl, _⟩ := ho1.form
    have hs1 := hb1.size
    have B1 := Lib.hid hb1
    have P1 := Lib.hid ho1
    clear hb1 ho1
    go_wp2_with fail
    refine (H2.out _).mono ?_
    rintro x w2 ⟨v2, rfl, ho2, hb2⟩
    obtain ⟨A2, c2, rfl, _⟩ := ho2.form
    have B2 := Lib.hid (B1.out.trans (hb2.mono B1.out.size))
    have hs2 := B2.out.size
    have P1b := Lib.hid (P1.out.keep hb2)
    have P2 := Lib.hid ho2
    clear hb2 ho2 P1 B1
    go_wp2_with fail
    refine (H2.out _).mono ?_
    rintro x w3 ⟨v3, rfl, ho3, hb3⟩
    obtain ⟨A3, c3, rfl, _⟩ := ho3.form
    have B3 := Lib.hid (B2.out.trans (hb3.mono B2.out.size))
    have P1c := Lib.hid (P1b.out.keep hb3)
    have P2b := Lib.hid (P2.out.keep hb3)
    have P3 := Lib.hid ho3
    have AP := Lib.hid (And.intro (own_ne_of (fun b hb => (own_lt P2.out hb).2) ho3 (Nat.le_refl _)) (own_ne_of' (fun b hb => (own_lt P2.out hb).2) ho3 (Nat.le_refl _)))
    clear hb3 ho3 P1b P2 B2
    go_wp2_with fail
    refine (same_texts9 (Reads.of_own P2b.out) (Reads.of_own P1c.out) (Nat.le_refl _) (Nat.le_refl _) (by omega) (by omega)).mono ?_
    rintro x w4 ⟨rfl, hb4⟩
    have B4 := Lib.hid (B3.out.trans (hb4.mono B3.out.size))
    have P1d := Lib.hid (P1c.out.keep hb4)
    have P2d := Lib.hid (P2b.out.keep hb4)
    have P3d := Lib.hid (P3.out.keep hb4)
    clear hb4 B3 P1c P2b P3
    go_wp2_with fail
    refine (same_texts9 (Reads.of_own P3d.out) (Reads.of_own P1d.out) (Nat.le_refl _) (Nat.le_refl _) (by omega) (by omega)).mono ?_
    rintro x w5 ⟨rfl, hb5⟩
    have B5 := Lib.hid (B4.out.trans (hb5.mono B4.out.size))
    have P2e := Lib.hid (P2d.out.keep hb5)
    have P3e := Lib.hid (P3d.out.keep hb5)
    clear hb5 B4 P1d P2d P3d
    go_wp2_with fail
    have hbX := (Below.refl w5.heap.size w5).alloc (Nat.le_refl _) (.cells #[.slice A2 l.length c2, .slice A3 l.length c3] 36)
    have hBW := B5.out.trans (hbX.mono B5.out.size)
    have HBW := Lib.hid hBW
    refine (apartTexts_any _ w.heap.size w5.heap.size 2 #[.slice A2 l.length c2, .slice A3 l.length c3]
      (fun i => match i with | 0 => .slice A2 l.length c2 | _ => .slice A3 l.length c3) (fun _ => l.length) (fun _ => tx l)
      (heap_alloc_new _ _) (fun i hi => by match i, hi with | 0, _ => rfl | 1, _ => rfl) ⟨fun i hi => ?_, fun i j hi hj hij => ?_⟩ hBW.size (by omega) (fun i hi => by show l.length ≤ _; omega)).mono ?_
    · match i, hi with
      | 0, _ => exact own_less hs1 (own_kept P2e.out hbX)
      | 1, _ => exact own_less hs2 (own_kept P3e.out hbX)
    · match i, j, hi, hj, hij with
      | 0, 1, _, _, _ => exact AP.out.1
      | 1, 0, _, _, _ => exact AP.out.2
      | 0, 0, _, _, h => exact absurd rfl h
      | 1, 1, _, _, h => exact absurd rfl h
    rintro x w6 ⟨rfl, hb6⟩
    have B6 := Lib.hid (HBW.out.trans hb6)
    clear hb6 hbX hBW
    go_wp2_with fail
    refine (works_any _).mono ?_
    rintro x w7 ⟨rfl, hb7⟩
    have B7 := Lib.hid (B6.out.trans (hb7.mono B6.out.size))
    clear hb7
    go_wp2_with fail
    go_ret
    exact ⟨rfl, B7.out⟩
  · have b0 : decide ((131072 : Int) < (s.length : Int)) = true := by rw [decide_eq_true_iff]; omega
    go_enter Tryd.func33, Tryd.ntmps33
    go_wp2_with fail
    go_ret
    exact ⟨rfl, Below.refl _ _⟩
end Exp
end Go.Proofs.YtnmnhnhlggbijaaDoor
