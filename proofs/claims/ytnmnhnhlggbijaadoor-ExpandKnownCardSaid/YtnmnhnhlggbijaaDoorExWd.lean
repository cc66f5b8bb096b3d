/-
  The walks of the laws ExpandWords and ExpandDocs at this seat's translation.
-/
import Derived.Test.YtnmnhnhlggbijaaDoorExpX
import Derived.Test.YtnmnhnhlggbijaaDoorRfU
import Derived.Test.YtnmnhnhlggbijaaDoorLnp
import Derived.Test.YtnmnhnhlggbijaaDoorErrP
namespace Go.Proofs.YtnmnhnhlggbijaaDoor
open Go.RowKit Err
namespace Exp
open T

theorem keptPairs_any (A : Option Addr) (g n c c' : Nat) (l : List (List UInt8 × List UInt8)) (w : World) (hr : Reads w w.heap.size 2 A n (px l)) (hc : n + 16 ≤ c') (hr' : Reads w w.heap.size 2 (some ⟨g, 0, none⟩) (n + 16) (px (l ++ pmk 16))) (hn : n ≤ 1099511627776) :
    Calls Tryd.prog 12 #[.slice (some ⟨g, 0, none⟩) n c', .slice A n c] w fun e w' => e = .returned (.bool true) ∧ Below w.heap.size w w' := by
  have HK := Lib.hid (fun c c' => keptFullPairs_any A (some ⟨g, 0, none⟩) n c c' l w hr hr' hn)
  clear hr hr'
  go_enter Tryd.func12, Tryd.ntmps12
  go_wp2_with fail
  refine (HK.out _ _).mono ?_
  rintro e w1 ⟨rfl, hb⟩
  have HB := Lib.hid hb
  clear hb
  go_wp2
  go_ret
  exact ⟨rfl, HB.out⟩
theorem reads_pre {w : World} {B size n m : Nat} {A : Option Addr} {xs ys : List Value} (h : Reads w B size A (n + m) (xs ++ ys)) (hx : xs.length = n * size) : Reads w B size A n xs :=
  ⟨hx, fun hn => by
    obtain ⟨ad, e, hb, hc⟩ := h.2 (by omega)
    exact ⟨ad, e, hb, fun j u hu => hc j u (by rw [List.getElem?_append_left (List.getElem?_eq_some_iff.1 hu).1]; exact hu)⟩⟩
theorem few_any (s : List UInt8) (A : Option Addr) (n c : Nat) (w : World) : Calls Tryd.prog 7 #[.string ⟨s.toArray⟩, .slice A n c] w fun x w' => x = .returned (.bool (decide (s.length ≤ 131072 ∧ n ≤ 4096))) ∧ w = w' := by
  by_cases h1 : s.length ≤ 131072
  · have b1 : decide ((s.length : Int) ≤ 131072) = true := by rw [decide_eq_true_iff]; omega
    rw [show decide (s.length ≤ 131072 ∧ n ≤ 4096) = decide (n ≤ 4096) by simp [h1]]
    have b2 : decide ((n : Int) ≤ 4096) = decide (n ≤ 4096) := decide_eq_decide.2 (by omega)
    clear h1
    generalize decide (n ≤ 4096) = z at b2 ⊢
    go_enter Tryd.func7, Tryd.ntmps7
    go_wp2
    go_ret
    exact ⟨rfl, rfl⟩
  · have b1 : decide ((s.length : Int) ≤ 131072) = false := by rw [decide_eq_false_iff_not]; omega
    rw [show decide (s.length ≤ 131072 ∧ n ≤ 4096) = false by simp [h1]]
    clear h1
    go_enter Tryd.func7, Tryd.ntmps7
    go_wp2
    go_ret
    exact ⟨rfl, rfl⟩
theorem told_no {f : List UInt8 → List UInt8} {e : UInt8} {k : K} {s : List UInt8} {O : Out} (h : Rd e k s O) : (told f O).2 ≤ 32 := by
  cases O with
  | err no => have := h.no; show no ≤ 32; omega
  | ok t r => rw [told_ok]; split <;> simp
theorem plain_errV (no : Nat) (h : no ≤ 32) (w : World) (hg : ErrTab w) : Calls Tryd.prog 11 #[errV no, .int .i64 no] w fun e w' => e = .returned (.bool true) ∧ Below w.heap.size w w' := by
  unfold errV
  by_cases h0 : no = 0
  · rw [if_pos h0]
    exact (plain_nil no w).mono fun _ _ ⟨h1, h2⟩ => ⟨by rw [h1, decide_eq_true h0], h2⟩
  · rw [if_neg h0]
    exact (plain_errno no no (by omega) h w hg).mono fun _ _ ⟨h1, h2⟩ => ⟨by rw [h1, decide_eq_true rfl], h2⟩
set_option maxHeartbeats 4000000 in
set_option maxRecDepth 100000 in
theorem expandWords_any (s : List UInt8) (e : UInt8) (A : Option Addr) (n c : Nat) (vars : List (List UInt8 × List UInt8)) (w : World) (hr : Reads w w.heap.size 2 A n (px vars)) (hv : PxLe 140737488355328 vars) (hg : ErrTab w) :
    Calls Tryd.prog 3 #[.string ⟨s.toArray⟩, .int .u8 e.toNat, .slice A n c] w fun x w' => x = .returned (.bool true) ∧ Below w.heap.size w w' := by
  have HFW := Lib.hid (few_any s A n c w)
  by_cases hf : s.length ≤ 131072 ∧ n ≤ 4096
  · rw [decide_eq_true hf] at HFW
    obtain ⟨O, hO⟩ := Rd.is e .plain s
    have hl : vars.length = n := by have := hr.1; rw [px_length] at this; omega
    have H1 := Lib.hid (wordR_any s e A n c vars O w (by omega) (by omega) hr hv hO)
    have H2 := Lib.hid (fun w1 (hb : Below w.heap.size w w1) => lentPairs_any A n c vars w1 ((hr.below hb).more hb.size) (by omega))
    have H3 := Lib.hid (fun g c' w1 (hr1 : Reads w1 w1.heap.size 2 (some ⟨g, 0, none⟩) (n + 16) (px (vars ++ pmk 16))) => word_any s e (some ⟨g, 0, none⟩) n c' vars O w1 (by omega) (by omega) (reads_pre (by rw [← px_append]; exact hr1) (by rw [px_length, hl])) hv hO)
    have H4 := Lib.hid (fun g c' w1 (hb : Below w.heap.size w w1) (hc : n + 16 ≤ c') (hr1 : Reads w1 w1.heap.size 2 (some ⟨g, 0, none⟩) (n + 16) (px (vars ++ pmk 16))) => keptPairs_any A g n c c' vars w1 ((hr.below hb).more hb.size) hc hr1 (by omega))
    have HP := Lib.hid (fun w1 (hb : Below w.heap.size w w1) => plain_errV _ (told_no (f := valOf vars) hO) w1 (errTab_below hg hb (errTab_lt hg)))
    unfold RToldPost at H1
    unfold ToldPost at H3
    generalize (told (valOf vars) O).1 = x1 at H1 H3
    generalize (told (valOf vars) O).2 = x2 at H1 H3 HP
    clear hO hr hv hg hl hf
    have he := fun wx => eq_texts x1 x1 wx
    rw [decide_eq_true rfl] at he
    go_enter Tryd.func3, Tryd.ntmps3
    go_wp2_with fail
    refine HFW.out.mono ?_
    rintro x w1 ⟨rfl, rfl⟩
    go_wp2_with fail
    refine H1.out.mono ?_
    rintro x w1 ⟨rfl, hb1⟩
    have B1 := Lib.hid hb1
    clear hb1
    go_wp2_with fail
    refine (H2.out _ B1.out).mono ?_
    rintro x w2 ⟨g, c', rfl, hc', hr2, hb2⟩
    have B2 := Lib.hid (B1.out.trans (hb2.mono B1.out.size))
    have R2 := Lib.hid hr2
    clear hb2 hr2
    generalize hE : errV x2 = E at H3 HP
    clear hE
    go_wp2_with fail
    refine (H3.out g c' _ R2.out).mono ?_
    rintro x w3 ⟨rfl, hb3⟩
    have B3 := Lib.hid (B2.out.trans (hb3.mono B2.out.size))
    have R3 := Lib.hid ((R2.out.below hb3).more hb3.size)
    clear hb3 R2
    go_wp2_with fail
    refine (H3.out g c' _ R3.out).mono ?_
    rintro x w4 ⟨rfl, hb4⟩
    have B4 := Lib.hid (B3.out.trans (hb4.mono B3.out.size))
    have R4 := Lib.hid ((R3.out.below hb4).more hb4.size)
    clear hb4 R3
    go_wp2_with fail
    refine (HP.out _ B4.out).mono ?_
    rintro x w5 ⟨rfl, hb5⟩
    have B5 := Lib.hid (B4.out.trans (hb5.mono B4.out.size))
    have R5 := Lib.hid ((R4.out.below hb5).more hb5.size)
    clear hb5 R4
    go_wp2_with fail
    refine (HP.out _ B5.out).mono ?_
    rintro x w6 ⟨rfl, hb6⟩
    have B6 := Lib.hid (B5.out.trans (hb6.mono B5.out.size))
    have R6 := Lib.hid ((R5.out.below hb6).more hb6.size)
    clear hb6 R5
    go_wp2_with fail
    refine (H4.out g c' _ B6.out hc' R6.out).mono ?_
    rintro x w7 ⟨rfl, hb7⟩
    have B7 := Lib.hid (B6.out.trans (hb7.mono B6.out.size))
    clear hb7
    go_wp2_with fail
    refine (works_any _).mono ?_
    rintro x w8 ⟨rfl, hb8⟩
    have B8 := Lib.hid (B7.out.trans (hb8.mono B7.out.size))
    clear hb8
    go_wp2_with fail
    go_ret
    exact ⟨rfl, B8.out⟩
  · rw [decide_eq_false hf] at HFW
    clear hf hr hv hg
    go_enter Tryd.func3, Tryd.ntmps3
    go_wp2_with fail
    refine HFW.out.mono ?_
    rintro x w1 ⟨rfl, rfl⟩
    go_wp2_with fail
    go_ret
    exact ⟨rfl, Below.refl _ _⟩
set_option maxHeartbeats 4000000 in
set_option maxRecDepth 100000 in
theorem expandDocs_any (s : List UInt8) (e : UInt8) (A : Option Addr) (n c : Nat) (vars : List (List UInt8 × List UInt8)) (w : World) (hr : Reads w w.heap.size 2 A n (px vars)) (hv : PxLe 140737488355328 vars) (hg : ErrTab w) :
    Calls Tryd.prog 4 #[.string ⟨s.toArray⟩, .int .u8 e.toNat, .slice A n c] w fun x w' => x = .returned (.bool true) ∧ Below w.heap.size w w' := by
  have HFW := Lib.hid (few_any s A n c w)
  by_cases hf : s.length ≤ 131072 ∧ n ≤ 4096
  · rw [decide_eq_true hf] at HFW
    obtain ⟨O, hO⟩ := Rd.is e .doc s
    have hl : vars.length = n := by have := hr.1; rw [px_length] at this; omega
    have H1 := Lib.hid (docR_any s e A n c vars O w (by omega) (by omega) hr hv hO)
    have H2 := Lib.hid (fun w1 (hb : Below w.heap.size w w1) => lentPairs_any A n c vars w1 ((hr.below hb).more hb.size) (by omega))
    have H3 := Lib.hid (fun g c' w1 (hr1 : Reads w1 w1.heap.size 2 (some ⟨g, 0, none⟩) (n + 16) (px (vars ++ pmk 16))) => doc_any s e (some ⟨g, 0, none⟩) n c' vars O w1 (by omega) (by omega) (reads_pre (by rw [← px_append]; exact hr1) (by rw [px_length, hl])) hv hO)
    have H4 := Lib.hid (fun g c' w1 (hb : Below w.heap.size w w1) (hc : n + 16 ≤ c') (hr1 : Reads w1 w1.heap.size 2 (some ⟨g, 0, none⟩) (n + 16) (px (vars ++ pmk 16))) => keptPairs_any A g n c c' vars w1 ((hr.below hb).more hb.size) hc hr1 (by omega))
    have HP := Lib.hid (fun w1 (hb : Below w.heap.size w w1) => plain_errV _ (told_no (f := valOf vars) hO) w1 (errTab_below hg hb (errTab_lt hg)))
    unfold RToldPost at H1
    unfold ToldPost at H3
    generalize (told (valOf vars) O).1 = x1 at H1 H3
    generalize (told (valOf vars) O).2 = x2 at H1 H3 HP
    clear hO hr hv hg hl hf
    have he := fun wx => eq_texts x1 x1 wx
    rw [decide_eq_true rfl] at he
    go_enter Tryd.func4, Tryd.ntmps4
    go_wp2_with fail
    refine HFW.out.mono ?_
    rintro x w1 ⟨rfl, rfl⟩
    go_wp2_with fail
    refine H1.out.mono ?_
    rintro x w1 ⟨rfl, hb1⟩
    have B1 := Lib.hid hb1
    clear hb1
    go_wp2_with fail
    refine (H2.out _ B1.out).mono ?_
    rintro x w2 ⟨g, c', rfl, hc', hr2, hb2⟩
    have B2 := Lib.hid (B1.out.trans (hb2.mono B1.out.size))
    have R2 := Lib.hid hr2
    clear hb2 hr2
    generalize hE : errV x2 = E at H3 HP
    clear hE
    go_wp2_with fail
    refine (H3.out g c' _ R2.out).mono ?_
    rintro x w3 ⟨rfl, hb3⟩
    have B3 := Lib.hid (B2.out.trans (hb3.mono B2.out.size))
    have R3 := Lib.hid ((R2.out.below hb3).more hb3.size)
    clear hb3 R2
    go_wp2_with fail
    refine (HP.out _ B3.out).mono ?_
    rintro x w5 ⟨rfl, hb5⟩
    have B5 := Lib.hid (B3.out.trans (hb5.mono B3.out.size))
    have R5 := Lib.hid ((R3.out.below hb5).more hb5.size)
    clear hb5 R3
    go_wp2_with fail
    refine (H4.out g c' _ B5.out hc' R5.out).mono ?_
    rintro x w7 ⟨rfl, hb7⟩
    have B7 := Lib.hid (B5.out.trans (hb7.mono B5.out.size))
    clear hb7
    go_wp2_with fail
    refine (works_any _).mono ?_
    rintro x w8 ⟨rfl, hb8⟩
    have B8 := Lib.hid (B7.out.trans (hb8.mono B7.out.size))
    clear hb8
    go_wp2_with fail
    go_ret
    exact ⟨rfl, B8.out⟩
  · rw [decide_eq_false hf] at HFW
    clear hf hr hv hg
    go_enter Tryd.func4, Tryd.ntmps4
    go_wp2_with fail
    refine HFW.out.mono ?_
    rintro x w1 ⟨rfl, rfl⟩
    go_wp2_with fail
    go_ret
    exact ⟨rfl, Below.refl _ _⟩
end Exp
end Go.Proofs.YtnmnhnhlggbijaaDoor
