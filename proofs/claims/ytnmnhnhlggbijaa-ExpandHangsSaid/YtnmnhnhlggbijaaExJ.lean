/-
  The walk of the law ExpandJoins at this seat's translation.
-/
import Derived.Test.YtnmnhnhlggbijaaExpX
import Derived.Test.YtnmnhnhlggbijaaExpL
import Derived.Test.YtnmnhnhlggbijaaSmt
namespace Go.Proofs.Ytnmnhnhlggbijaa
open Go.RowKit
namespace Exp
open T

theorem few_any (s : List UInt8) (A : Option Addr) (n c : Nat) (w : World) : Calls Try.prog 12 #[.string ⟨s.toArray⟩, .slice A n c] w fun x w' => x = .returned (.bool (decide (s.length ≤ 131072 ∧ n ≤ 4096))) ∧ w = w' := by
  by_cases h1 : s.length ≤ 131072
  · have b1 : decide ((s.length : Int) ≤ 131072) = true := by rw [decide_eq_true_iff]; omega
    rw [show decide (s.length ≤ 131072 ∧ n ≤ 4096) = decide (n ≤ 4096) by simp [h1]]
    have b2 : decide ((n : Int) ≤ 4096) = decide (n ≤ 4096) := decide_eq_decide.2 (by omega)
    clear h1
    generalize decide (n ≤ 4096) = z at b2 ⊢
    go_enter Try.func12, Try.ntmps12
    go_wp2
    go_ret
    exact ⟨rfl, rfl⟩
  · have b1 : decide ((s.length : Int) ≤ 131072) = false := by rw [decide_eq_false_iff_not]; omega
    rw [show decide (s.length ≤ 131072 ∧ n ≤ 4096) = false by simp [h1]]
    clear h1
    go_enter Try.func12, Try.ntmps12
    go_wp2
    go_ret
    exact ⟨rfl, rfl⟩
/-- What ends answers: false: the text ends with no escape, $, letter, digit or _. -/
def EndsPost (e : UInt8) (s : List UInt8) (w : World) (x : Ending) (w' : World) : Prop := ∃ z : Bool, x = .returned (.bool z) ∧ (z = false → Fine e s) ∧ w = w'
theorem okLast_is {e c : UInt8} (h1 : c ≠ e) (h2 : c ≠ 36) (h3 : (c.toNat : Int) ≠ 95) (h4 : ¬ (97 ≤ (c.toNat : Int) ∧ (c.toNat : Int) ≤ 122)) (h5 : ¬ (65 ≤ (c.toNat : Int) ∧ (c.toNat : Int) ≤ 90)) (h6 : ¬ (48 ≤ (c.toNat : Int) ∧ (c.toNat : Int) ≤ 57)) : okLast e c := by
  refine ⟨h1, h2, ?_, ?_⟩
  · rw [letter_is, decide_eq_false_iff_not]; omega
  · rw [digit_is, decide_eq_false_iff_not]; omega
set_option maxHeartbeats 4000000 in
theorem ends_any (s : List UInt8) (hs : s.length ≤ 1099511627776) (e : UInt8) (w : World) : Calls Try.prog 13 #[.string ⟨s.toArray⟩, .int .u8 e.toNat] w (EndsPost e s w) := by
  by_cases h0 : s = []
  · subst h0
    go_enter Try.func13, Try.ntmps13
    go_wp2_with fail
    go_ret
    exact ⟨false, rfl, fun _ u c h => by simp at h, rfl⟩
  · have hl : 0 < s.length := List.length_pos_iff.2 h0
    have hui := ne_of_isEmpty h0
    obtain ⟨m, hm⟩ : ∃ m, s.length = m + 1 := ⟨s.length - 1, by omega⟩
    have hidx := run_index_list Try.underlying9 s m (by omega)
    have hz : IntKind.i64.wrap ((s.length : Int) - 1) = (m : Int) := by rw [IntWalk.i64_in _ (by omega)]; omega
    have hz2 : (s.length : Int) - 1 = (m : Int) := by omega
    have HF : Hid (∀ c, s.getD m 0 = c → okLast e c → Fine e s) := Lib.hid (fun c hc hok u d hu => by
      have hlen : u.length = m := by have := congrArg List.length hu; simp at this; omega
      have : s.getD m 0 = d := by rw [hu]; simp [List.getD, ← hlen]
      rw [← this, hc]; exact hok)
    obtain ⟨c, hc⟩ : ∃ c, s.getD m 0 = c := ⟨_, rfl⟩
    rw [hc] at hidx
    have HOK := Lib.hid (HF.out c hc)
    have HM := Lib.hid hm
    have qe : ((c.toNat : Int) == (e.toNat : Int)) = decide (c = e) := b8 c e
    have q36 : ((c.toNat : Int) == 36) = decide (c = 36) := b8 c 36
    clear hc HF hm h0
    by_cases h1 : c = e
    · rw [decide_eq_true h1] at qe
      clear q36 h1
      go_enter Try.func13, Try.ntmps13
      go_wp2_with fail
      all_goals
        go_ret
        refine ⟨_, rfl, fun h => ?_, rfl⟩
        simp at h
    · rw [decide_eq_false h1] at qe
      have H1 := Lib.hid h1
      clear h1
      by_cases h2 : c = 36
      · rw [decide_eq_true h2] at q36
        clear h2
        go_enter Try.func13, Try.ntmps13
        go_wp2_with fail
        all_goals
          go_ret
          refine ⟨_, rfl, fun h => ?_, rfl⟩
          simp at h
      · rw [decide_eq_false h2] at q36
        have H2 := Lib.hid h2
        clear h2
        go_enter Try.func13, Try.ntmps13
        go_wp2_with fail
        all_goals
          go_ret
          refine ⟨_, rfl, fun h => ?_, rfl⟩
          first
            | (simp at h; done)
            | (simp at h; exact HOK.out (okLast_is H1.out H2.out (by omega) (by omega) (by omega) (by omega)))
            | exact HOK.out (okLast_is H1.out H2.out (by omega) (by omega) (by omega) (by omega))
theorem told_len (f : List UInt8 → List UInt8) (O : Out) : (told f O).1.length ≤ 65536 := by
  cases O with
  | err no => simp [told]
  | ok t r => rw [told_ok]; split; assumption; simp
theorem join_law {e : UInt8} {k : K} {a b : List UInt8} {Oa Ob Oab : Out} {f : List UInt8 → List UInt8} (hk : k = .plain ∨ k = .doc) (hf : Fine e a) (ha : Rd e k a Oa) (hb : Rd e k b Ob) (hab : Rd e k (a ++ b) Oab) (h1 : (told f Oa).2 = 0) (h2 : (told f Ob).2 = 0)
    (hl : (told f Oa).1.length + (told f Ob).1.length ≤ 65536) : (told f Oab).1 = (told f Oa).1 ++ (told f Ob).1 ∧ (told f Oab).2 = 0 := by
  cases Oa with
  | err no => have := ha.no; have h3 : no = 0 := h1; omega
  | ok ta ra =>
    cases Ob with
    | err no => have := hb.no; have h3 : no = 0 := h2; omega
    | ok tb rb =>
      have hj := hab.det (ha.join b ta ra rfl hk hf hb)
      subst hj
      rw [told_ok] at h1 h2 hl
      rw [told_ok] at hl
      have e1 : (ta.val f).length ≤ 65536 := by
        by_cases h : (ta.val f).length ≤ 65536
        · exact h
        · rw [if_neg h] at h1; cases h1
      have e2 : (tb.val f).length ≤ 65536 := by
        by_cases h : (tb.val f).length ≤ 65536
        · exact h
        · rw [if_neg h] at h2; cases h2
      rw [if_pos e1, if_pos e2] at hl
      show (told f (.ok (ta.app tb) rb)).1 = _ ∧ (told f (.ok (ta.app tb) rb)).2 = 0
      rw [told_ok, told_ok, told_ok, if_pos e1, if_pos e2, val_app, if_pos (by rw [List.length_append]; exact hl)]
      exact ⟨rfl, rfl⟩
/-- Is it nil? -/
structure NilIs (E : Value) (z : Bool) : Prop where
  eq : ∀ wx : World, (binOp .eql 32 E .nilIface).run Try.prog wx = .ok (.bool z) wx
  ne : ∀ wx : World, (binOp .neq 32 E .nilIface).run Try.prog wx = .ok (.bool (!z)) wx
  ge : ∀ (o : Operand) (wx : World), (eqGuard .eql 32 o (.const .nilIface) E .nilIface).run Try.prog wx = .ok () wx
  gn : ∀ (o : Operand) (wx : World), (eqGuard .neq 32 o (.const .nilIface) E .nilIface).run Try.prog wx = .ok () wx
theorem errV_nil (n : Nat) : NilIs (errV n) (decide (n = 0)) := by
  unfold errV
  by_cases h : n = 0
  · rw [if_pos h, decide_eq_true h]
    exact ⟨fun wx => by go_simp, fun wx => by go_simp, fun o wx => by unfold eqGuard; simp, fun o wx => by unfold eqGuard; simp⟩
  · rw [if_neg h, decide_eq_false h]
    exact ⟨fun wx => by go_simp, fun wx => by go_simp, fun o wx => by unfold eqGuard; simp, fun o wx => by unfold eqGuard; simp⟩
theorem add_texts (p q : List UInt8) : (⟨p.toArray⟩ : ByteArray) ++ ⟨q.toArray⟩ = ⟨(p ++ q).toArray⟩ := by
  apply ByteArray.ext
  simp
/-- What is known of three texts: where the first two are right and fit, the third is both. -/
def JW (x1 x2 x3 : List UInt8) (z1 z2 z3 : Bool) : Prop :=
  z1 = false ∨ (z1 = true ∧ z2 = false) ∨ (z1 = true ∧ z2 = true ∧ ¬ x1.length + x2.length ≤ 65536) ∨ (z1 = true ∧ z2 = true ∧ x1.length + x2.length ≤ 65536 ∧ x3 = x1 ++ x2 ∧ z3 = true)
theorem jw_of {e : UInt8} {k : K} {a b : List UInt8} {Oa Ob Oab : Out} {f : List UInt8 → List UInt8} (hk : k = .plain ∨ k = .doc) (hf : Fine e a) (ha : Rd e k a Oa) (hb : Rd e k b Ob) (hab : Rd e k (a ++ b) Oab) :
    JW (told f Oa).1 (told f Ob).1 (told f Oab).1 (decide ((told f Oa).2 = 0)) (decide ((told f Ob).2 = 0)) (decide ((told f Oab).2 = 0)) := by
  unfold JW
  by_cases h1 : (told f Oa).2 = 0
  · by_cases h2 : (told f Ob).2 = 0
    · by_cases h3 : (told f Oa).1.length + (told f Ob).1.length ≤ 65536
      · obtain ⟨e1, e2⟩ := join_law hk hf ha hb hab h1 h2 h3
        exact .inr (.inr (.inr ⟨decide_eq_true h1, decide_eq_true h2, h3, e1, decide_eq_true e2⟩))
      · exact .inr (.inr (.inl ⟨decide_eq_true h1, decide_eq_true h2, h3⟩))
    · exact .inr (.inl ⟨decide_eq_true h1, decide_eq_false h2⟩)
  · exact .inl (decide_eq_false h1)
set_option maxHeartbeats 16000000 in
set_option maxRecDepth 100000 in
theorem expandJoins_any (a b : List UInt8) (e : UInt8) (A : Option Addr) (n c : Nat) (vars : List (List UInt8 × List UInt8)) (w : World) (hr : Reads w w.heap.size 2 A n (px vars)) (hv : PxLe 140737488355328 vars) :
    Calls Try.prog 4 #[.string ⟨a.toArray⟩, .string ⟨b.toArray⟩, .int .u8 e.toNat, .slice A n c] w fun x w' => x = .returned (.bool true) ∧ Below w.heap.size w w' := by
  have HF1 := Lib.hid (few_any a A n c w)
  have HF2 := Lib.hid (few_any b none 0 0 w)
  by_cases h1 : a.length ≤ 131072 ∧ n ≤ 4096
  · rw [decide_eq_true h1] at HF1
    by_cases h2 : b.length ≤ 131072
    · rw [decide_eq_true ⟨h2, by omega⟩] at HF2
      have HE := Lib.hid (ends_any a (by omega) e w)
      obtain ⟨O1, p1⟩ := Rd.is e .plain a
      obtain ⟨O2, p2⟩ := Rd.is e .plain b
      obtain ⟨O3, p3⟩ := Rd.is e .plain (a ++ b)
      obtain ⟨O4, p4⟩ := Rd.is e .doc a
      obtain ⟨O5, p5⟩ := Rd.is e .doc b
      obtain ⟨O6, p6⟩ := Rd.is e .doc (a ++ b)
      have hl3 : (a ++ b).length ≤ 4398046511104 := by rw [List.length_append]; omega
      have H1 := Lib.hid (fun w1 (hb : Below w.heap.size w w1) => word_any a e A n c vars O1 w1 (by omega) (by omega) ((hr.below hb).more hb.size) hv p1)
      have H2 := Lib.hid (fun w1 (hb : Below w.heap.size w w1) => word_any b e A n c vars O2 w1 (by omega) (by omega) ((hr.below hb).more hb.size) hv p2)
      have H3 := Lib.hid (fun w1 (hb : Below w.heap.size w w1) => word_any (a ++ b) e A n c vars O3 w1 hl3 (by omega) ((hr.below hb).more hb.size) hv p3)
      have H4 := Lib.hid (fun w1 (hb : Below w.heap.size w w1) => doc_any a e A n c vars O4 w1 (by omega) (by omega) ((hr.below hb).more hb.size) hv p4)
      have H5 := Lib.hid (fun w1 (hb : Below w.heap.size w w1) => doc_any b e A n c vars O5 w1 (by omega) (by omega) ((hr.below hb).more hb.size) hv p5)
      have H6 := Lib.hid (fun w1 (hb : Below w.heap.size w w1) => doc_any (a ++ b) e A n c vars O6 w1 hl3 (by omega) ((hr.below hb).more hb.size) hv p6)
      have J1 := Lib.hid (fun hf => jw_of (f := valOf vars) (.inl rfl) hf p1 p2 p3)
      have J2 := Lib.hid (fun hf => jw_of (f := valOf vars) (.inr rfl) hf p4 p5 p6)
      have hx1 := told_len (valOf vars) O1
      have hx2 := told_len (valOf vars) O2
      have hx4 := told_len (valOf vars) O4
      have hx5 := told_len (valOf vars) O5
      have N1 := errV_nil (told (valOf vars) O1).2
      have N2 := errV_nil (told (valOf vars) O2).2
      have N3 := errV_nil (told (valOf vars) O3).2
      have N4 := errV_nil (told (valOf vars) O4).2
      have N5 := errV_nil (told (valOf vars) O5).2
      have N6 := errV_nil (told (valOf vars) O6).2
      unfold ToldPost at H1 H2 H3 H4 H5 H6
      generalize (told (valOf vars) O1).1 = x1 at H1 J1 hx1
      generalize (told (valOf vars) O2).1 = x2 at H2 J1 hx2
      generalize (told (valOf vars) O3).1 = x3 at H3 J1
      generalize (told (valOf vars) O4).1 = x4 at H4 J2 hx4
      generalize (told (valOf vars) O5).1 = x5 at H5 J2 hx5
      generalize (told (valOf vars) O6).1 = x6 at H6 J2
      generalize decide ((told (valOf vars) O1).2 = 0) = z1 at J1 N1
      generalize decide ((told (valOf vars) O2).2 = 0) = z2 at J1 N2
      generalize decide ((told (valOf vars) O3).2 = 0) = z3 at J1 N3
      generalize decide ((told (valOf vars) O4).2 = 0) = z4 at J2 N4
      generalize decide ((told (valOf vars) O5).2 = 0) = z5 at J2 N5
      generalize decide ((told (valOf vars) O6).2 = 0) = z6 at J2 N6
      generalize errV (told (valOf vars) O1).2 = E1 at H1 N1
      generalize errV (told (valOf vars) O2).2 = E2 at H2 N2
      generalize errV (told (valOf vars) O3).2 = E3 at H3 N3
      generalize errV (told (valOf vars) O4).2 = E4 at H4 N4
      generalize errV (told (valOf vars) O5).2 = E5 at H5 N5
      generalize errV (told (valOf vars) O6).2 = E6 at H6 N6
      have ha1 : a.length ≤ 131072 := h1.1
      clear p1 p2 p3 p4 p5 p6 hr hv hl3 h1
      have hab := add_texts a b
      generalize a ++ b = ab at hab H3 H6
      go_enter Try.func4, Try.ntmps4
      go_wp2_with fail
      refine HF1.out.mono ?_
      rintro x w1 ⟨rfl, rfl⟩
      go_wp2_with fail
      refine HF2.out.mono ?_
      rintro x w1 ⟨rfl, rfl⟩
      go_wp2_with fail
      refine HE.out.mono ?_
      rintro x w1 ⟨z, rfl, hz, rfl⟩
      cases z
      · have JJ1 := Lib.hid (J1.out (hz rfl))
        have JJ2 := Lib.hid (J2.out (hz rfl))
        clear J1 J2 hz
        go_wp2_with fail
        refine (H1.out _ (Below.refl _ _)).mono ?_
        rintro x w1 ⟨rfl, hb1⟩
        have B1 := Lib.hid hb1
        clear hb1
        go_wp2_with fail
        refine (H2.out _ B1.out).mono ?_
        rintro x w2 ⟨rfl, hb2⟩
        have B2 := Lib.hid (B1.out.trans (hb2.mono B1.out.size))
        clear hb2
        go_wp2_with fail
        refine (H3.out _ B2.out).mono ?_
        rintro x w3 ⟨rfl, hb3⟩
        have B3 := Lib.hid (B2.out.trans (hb3.mono B2.out.size))
        clear hb3
        go_wp2_with fail
        refine (H4.out _ B3.out).mono ?_
        rintro x w4 ⟨rfl, hb4⟩
        have B4 := Lib.hid (B3.out.trans (hb4.mono B3.out.size))
        clear hb4
        go_wp2_with fail
        refine (H5.out _ B4.out).mono ?_
        rintro x w5 ⟨rfl, hb5⟩
        have B5 := Lib.hid (B4.out.trans (hb5.mono B4.out.size))
        clear hb5
        go_wp2_with fail
        refine (H6.out _ B5.out).mono ?_
        rintro x w6 ⟨rfl, hb6⟩
        have B6 := Lib.hid (B5.out.trans (hb6.mono B5.out.size))
        clear hb6 B1 B2 B3 B4 B5 H1 H2 H3 H4 H5 H6 HF1 HF2 HE
        have hk1 := add_texts x1 x2
        have hk2 := add_texts x4 x5
        obtain ⟨x12, h12⟩ : ∃ x12, x12 = x1 ++ x2 := ⟨_, rfl⟩
        obtain ⟨x45, h45⟩ : ∃ x45, x45 = x4 ++ x5 := ⟨_, rfl⟩
        unfold JW at JJ1 JJ2
        rw [← h12] at hk1 JJ1
        rw [← h45] at hk2 JJ2
        have hn1 := fun wx => neq_texts x12 x12 wx
        have hn2 := fun wx => eq_texts x45 x45 wx
        rw [decide_eq_false (by simp)] at hn1
        rw [decide_eq_true rfl] at hn2
        clear h12 h45
        have e1 := N1.eq
        have e2 := N2.eq
        have e3 := N3.ne
        have e4 := N4.ne
        have e5 := N5.ne
        have e6 := N6.eq
        have g1 := N1.ge
        have g2 := N2.ge
        have g3 := N3.gn
        have g4 := N4.gn
        have g5 := N5.gn
        have g6 := N6.ge
        clear N1 N2 N3 N4 N5 N6
        have C1 : z1 = false ∨ (z1 = true ∧ z2 = false) ∨ (z1 = true ∧ z2 = true ∧ decide ((x1.length : Int) + (x2.length : Int) ≤ 65536) = false) ∨ (z1 = true ∧ z2 = true ∧ decide ((x1.length : Int) + (x2.length : Int) ≤ 65536) = true ∧ x3 = x12 ∧ z3 = true) := by
          rcases JJ1.out with h | h | ⟨h, g, hL⟩ | ⟨h, g, hL, k⟩
          · exact .inl h
          · exact .inr (.inl h)
          · exact .inr (.inr (.inl ⟨h, g, by rw [decide_eq_false_iff_not]; omega⟩))
          · exact .inr (.inr (.inr ⟨h, g, by rw [decide_eq_true_iff]; omega, k⟩))
        have C2 : z4 = false ∨ (z4 = true ∧ z5 = false) ∨ (z4 = true ∧ z5 = true ∧ decide ((65536 : Int) < (x4.length : Int) + (x5.length : Int)) = true) ∨ (z4 = true ∧ z5 = true ∧ decide ((65536 : Int) < (x4.length : Int) + (x5.length : Int)) = false ∧ x6 = x45 ∧ z6 = true) := by
          rcases JJ2.out with h | h | ⟨h, g, hL⟩ | ⟨h, g, hL, k⟩
          · exact .inl h
          · exact .inr (.inl h)
          · exact .inr (.inr (.inl ⟨h, g, by rw [decide_eq_true_iff]; omega⟩))
          · exact .inr (.inr (.inr ⟨h, g, by rw [decide_eq_false_iff_not]; omega, k⟩))
        clear JJ1 JJ2
        rcases C1 with rfl | ⟨rfl, rfl⟩ | ⟨rfl, rfl, bL⟩ | ⟨rfl, rfl, bL, rfl, rfl⟩
        all_goals
          rcases C2 with rfl | ⟨rfl, rfl⟩ | ⟨rfl, rfl, bM⟩ | ⟨rfl, rfl, bM, rfl, rfl⟩
          all_goals
            go_wp2_with fail
            refine (works_any _).mono ?_
            rintro x w7 ⟨rfl, hb7⟩
            have B7 := Lib.hid (B6.out.trans (hb7.mono B6.out.size))
            clear hb7
            go_wp2_with fail
            go_ret
            exact ⟨rfl, B7.out⟩
      · clear J1 J2 hz
        go_wp2_with fail
        go_ret
        exact ⟨rfl, Below.refl _ _⟩
    · rw [decide_eq_false (fun h => h2 h.1)] at HF2
      clear h1 h2 hr hv
      go_enter Try.func4, Try.ntmps4
      go_wp2_with fail
      refine HF1.out.mono ?_
      rintro x w1 ⟨rfl, rfl⟩
      go_wp2_with fail
      refine HF2.out.mono ?_
      rintro x w1 ⟨rfl, rfl⟩
      go_wp2_with fail
      go_ret
      exact ⟨rfl, Below.refl _ _⟩
  · rw [decide_eq_false h1] at HF1
    clear h1 hr hv
    go_enter Try.func4, Try.ntmps4
    go_wp2_with fail
    refine HF1.out.mono ?_
    rintro x w1 ⟨rfl, rfl⟩
    go_wp2_with fail
    go_ret
    exact ⟨rfl, Below.refl _ _⟩
end Exp
end Go.Proofs.Ytnmnhnhlggbijaa
