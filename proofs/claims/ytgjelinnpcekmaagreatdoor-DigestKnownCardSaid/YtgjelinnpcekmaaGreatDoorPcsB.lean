/-
  The walk of stratalaw03.DigestBack at this seat's translation: what is laid is found again, and nothing else is.
-/
import Derived.Test.YtgjelinnpcekmaaGreatDoorPcsC
import Derived.Test.YtgjelinnpcekmaaGreatDoorPcsT
namespace Go.Proofs.YtgjelinnpcekmaaGreatDoor
open Go.RowKit Plain

theorem pieces_le (l : List (List UInt8)) (h : ∀ p ∈ l, p.length < 10 ^ 10) : (pieces l).length ≤ total l + 11 * l.length := by
  induction l with
  | nil => simp [pieces, total]
  | cons p r ih =>
    have h1 := ih (fun q hq => h q (by simp [hq]))
    have h2 := dec_len 9 p.length (h p (by simp))
    rw [pieces_cons, List.length_append, List.length_cons]
    unfold enc
    simp only [List.length_append, List.length_cons, total, List.map_cons, List.sum_cons] at *
    omega
theorem small_texts {l : List (List UInt8)} {n : Nat} (h : total l ≤ n) : ∀ p ∈ l, p.length ≤ n := by
  induction l with
  | nil => simp
  | cons q r ih =>
    simp only [total, List.map_cons, List.sum_cons] at h
    intro p hp
    rcases List.mem_cons.1 hp with rfl | hp
    · omega
    · exact ih (by simp only [total]; omega) p hp
theorem Cut_pieces (l : List (List UInt8)) (h : total l + l.length ≤ 4194304) (w : World) :
    Calls Tryz.prog 29 #[.string ⟨(pieces l).toArray⟩] w fun e w' => ∃ A c, e = .returned (.tuple #[.slice A l.length c, .nilIface]) ∧ Reads w' w'.heap.size 1 A l.length (tx l) ∧ Below w.heap.size w w' := by
  have hs : ∀ p ∈ l, p.length < 10 ^ 10 := fun p hp => by have := small_texts (show total l ≤ 4194304 by omega) p hp; omega
  have hlen : (pieces l).length ≤ 8796093022208 := by have := pieces_le l hs; omega
  refine (Cut_any (pieces l) hlen w).mono ?_
  rintro e w' (⟨ps, v, rfl, he, ho, hb⟩ | ⟨ps, k, j, rfl, hc, hk, hj, hn, hb⟩)
  · obtain rfl := pieces_inj he
    obtain ⟨A, c, rfl, hr⟩ := own_reads ho
    exact ⟨A, c, rfl, hr, hb⟩
  · exact absurd (hc.no_fault hk (fun p hp => dec_len 9 _ (hs p hp)) hj) hn
theorem join_texts (p q : List UInt8) : (⟨p.toArray⟩ : ByteArray) ++ ⟨q.toArray⟩ = ⟨(p ++ q).toArray⟩ := by apply ByteArray.ext; simp

set_option maxHeartbeats 4000000 in
set_option maxRecDepth 100000 in
theorem digestBack_any (A A' : Option Addr) (n c n' c' : Nat) (l m : List (List UInt8)) (s : List UInt8) (w : World) (hr : Reads w w.heap.size 1 A n (tx l)) (hr' : Reads w w.heap.size 1 A' n' (tx m))
    (hl : total l + l.length ≤ 1048576) (hm : total m + m.length ≤ 1048576) (hs : s.length ≤ 1048576) (htab : Tab10 w) :
    Calls Tryz.prog 21 #[.slice A n c, .slice A' n' c', .string ⟨s.toArray⟩] w fun e w' => e = .returned (.bool true) ∧ Below w.heap.size w w' := by
  obtain ⟨i0, hi0, hz0, hz1, hz2⟩ := info_parts infoStr
  have hll : l.length = n := by have := hr.1; rw [tx_length] at this; omega
  have hml : m.length = n' := by have := hr'.1; rw [tx_length] at this; omega
  subst hll hml
  have sl := small_texts (show total l ≤ 1048576 by omega)
  have sm := small_texts (show total m ≤ 1048576 by omega)
  have hpl := pieces_le l (fun p hp => by have := sl p hp; omega)
  have hpm := pieces_le m (fun p hp => by have := sm p hp; omega)
  have hboth : total (l ++ m) + (l ++ m).length ≤ 4194304 := by rw [total_append, List.length_append]; omega
  have F1 := few_any A l.length c w.heap.size l w hr (by omega) (fun p hp => by have := sl p hp; omega)
  have F2 := few_any A' m.length c' w.heap.size m w hr' (by omega) (fun p hp => by have := sm p hp; omega)
  rw [decide_eq_true (show total l ≤ 1048576 by omega)] at F1
  rw [decide_eq_true (show total m ≤ 1048576 by omega)] at F2
  have HR := Lib.hid hr
  have HR' := Lib.hid hr'
  have HT := Lib.hid htab
  have HF1 := Lib.hid F1
  have HF2 := Lib.hid F2
  have HSL := Lib.hid sl
  have HSM := Lib.hid sm
  clear hr hr' htab F1 F2 sl sm
  go_enter Tryz.func21, Tryz.ntmps21
  go_wp2_with fail
  refine HF1.out.mono ?_
  rintro e w' ⟨rfl, rfl⟩
  go_wp2_with fail
  refine HF2.out.mono ?_
  rintro e w' ⟨rfl, rfl⟩
  clear HF1 HF2
  go_wp2_with fail
  refine (Pieces_any A _ c l w HR.out (by omega) HT.out).mono ?_
  rintro e w1 ⟨rfl, hb1⟩
  have B1 := Lib.hid hb1
  clear hb1
  go_wp2_with fail
  refine (Pieces_any A' _ c' m w1 ((HR'.out.below B1.out).more B1.out.size) (by omega) (HT.out.below B1.out HT.out.lt)).mono ?_
  rintro e w2 ⟨rfl, hb2⟩
  have B2 : Hid (Below w.heap.size w w2) := Lib.hid (B1.out.trans (hb2.mono B1.out.size))
  clear hb2 B1
  go_wp2_with fail
  refine (Cut_pieces l (by omega) w2).mono ?_
  rintro e w3 ⟨A3, c3, rfl, hr3, hb3⟩
  have B3 : Hid (Below w.heap.size w w3) := Lib.hid (B2.out.trans (hb3.mono B2.out.size))
  have R3 := Lib.hid hr3
  clear hb3 hr3 B2
  go_wp2_with fail
  rw [join_texts, ← pieces_append]
  refine (Cut_pieces (l ++ m) hboth w3).mono ?_
  rintro e w4 ⟨A4, c4, rfl, hr4, hb4⟩
  have B4 : Hid (Below w.heap.size w w4) := Lib.hid (B3.out.trans (hb4.mono B3.out.size))
  have R3' := Lib.hid (R3.out.go (Nat.le_refl _) hb4)
  have R4 := Lib.hid hr4
  clear hb4 hr4 B3 R3
  go_wp2_with fail
  refine (CopyTexts_any A l.length c l w4 ((HR.out.below B4.out).more B4.out.size) (by omega)).mono ?_
  rintro e w5 ⟨v5, rfl, ho5, hb5⟩
  have B5 : Hid (Below w.heap.size w w5) := Lib.hid (B4.out.trans (hb5.mono B4.out.size))
  have R3 := Lib.hid (R3'.out.below hb5)
  have R4' := Lib.hid (R4.out.below hb5)
  have O5 := Lib.hid ho5
  have S5 := Lib.hid hb5.size
  clear hb5 ho5 R3' R4
  go_wp2_with (at_builtin; refine wpList_append_any _ rfl _ _ 29 rfl w4.heap.size 9 i0 (.string ByteArray.empty) 1 16 Tryz.underlying29 hi0 hz0 hz1 hz2 rfl (by decide) v5 l.length (tx l) rfl O5.out w.heap.size A' m.length c' (tx m) rfl (HR'.out.below B5.out) (by intro x hx; simp only [tx, List.mem_map] at hx; obtain ⟨y, _, rfl⟩ := hx; rfl) (by unfold maxLen; omega) (by omega) S5.out ?_; intro v6 w6 hown6 hgrow6 _)
  have BB := Below.grown B5.out hgrow6 B5.out.size (fun j hj => Nat.le_trans B4.out.size (O5.out.lt j hj).1)
  have B6 : Hid (Below w.heap.size w w6) := Lib.hid BB
  have G6 := hgrow6.size
  have R3' : Hid (Reads w6 w6.heap.size 1 A3 l.length (tx l)) := Lib.hid ((R3.out.grown hgrow6 S5.out (fun j hj => (O5.out.lt j hj).1)).more (by have := S5.out; omega))
  have R4 : Hid (Reads w6 w6.heap.size 1 A4 (l ++ m).length (tx (l ++ m))) := Lib.hid ((R4'.out.grown hgrow6 S5.out (fun j hj => (O5.out.lt j hj).1)).more (by have := S5.out; omega))
  obtain ⟨A6, c6, rfl, hr6⟩ := own_reads hown6
  rw [← tx_append] at hr6
  have R6 := Lib.hid hr6
  clear hr6 BB hgrow6 hown6 R3 R4' B4 S5 O5 G6
  refine (SameTexts_any A3 A _ _ _ _ _ _ l l w6 R3'.out (HR.out.below B6.out) (Nat.le_refl _) B6.out.size (by omega) (by omega)).mono ?_
  rintro e w7 ⟨rfl, hb7⟩
  rw [decide_eq_true rfl]
  have B7 : Hid (Below w.heap.size w w7) := Lib.hid (B6.out.trans (hb7.mono B6.out.size))
  have R4' := Lib.hid (R4.out.go (Nat.le_refl _) hb7)
  have R6' := Lib.hid (R6.out.go (Nat.le_refl _) hb7)
  clear hb7 R4 R6 B6 R3'
  go_wp2_with fail
  refine (SameTexts_any A4 A6 (l.length + m.length) _ (l.length + m.length) _ _ _ (l ++ m) (l ++ m) w7 (by have := R4'.out; rwa [List.length_append] at this) R6'.out (Nat.le_refl _) (Nat.le_refl _) (by omega) (by omega)).mono ?_
  rintro e w8 ⟨rfl, hb8⟩
  rw [decide_eq_true rfl]
  have B8 : Hid (Below w.heap.size w w8) := Lib.hid (B7.out.trans (hb8.mono B7.out.size))
  have R6 := Lib.hid (R6'.out.go (Nat.le_refl _) hb8)
  clear hb8 R4' R6' B7
  go_wp2_with fail
  refine (Pieces_any A6 (l.length + m.length) _ (l ++ m) w8 R6.out (by rw [pieces_append, List.length_append]; omega) (HT.out.below B8.out HT.out.lt)).mono ?_
  rintro e w9 ⟨rfl, hb9⟩
  have B9 : Hid (Below w.heap.size w w9) := Lib.hid (B8.out.trans (hb9.mono B8.out.size))
  clear hb9 R6 B8
  have hj := join_texts (pieces l) (pieces m)
  rw [← pieces_append] at hj
  go_wp2_with fail
  clear hj
  refine (Cut_any s (by omega) w9).mono ?_
  rintro e w10 (⟨ps, v, rfl, he, ho, hb⟩ | ⟨ps, k, j, rfl, hc, hk, hj, hn, hb⟩)
  · have B10 : Hid (Below w.heap.size w w10) := Lib.hid (B9.out.trans (hb.mono B9.out.size))
    obtain ⟨A10, c10, rfl, hr10⟩ := own_reads ho
    have R10 := Lib.hid hr10
    subst he
    clear ho hb hr10
    go_wp2_with fail
    refine (Pieces_any A10 ps.length _ ps w10 R10.out (by omega) (HT.out.below B10.out HT.out.lt)).mono ?_
    rintro e w11 ⟨rfl, hb11⟩
    have B11 : Hid (Below w.heap.size w w11) := Lib.hid (B10.out.trans (hb11.mono B10.out.size))
    clear hb11
    go_wp2
    go_ret
    exact ⟨rfl, B11.out⟩
  · have B10 : Hid (Below w.heap.size w w10) := Lib.hid (B9.out.trans (hb.mono B9.out.size))
    clear hc hj hn hb
    go_wp2
    go_ret
    exact ⟨rfl, B10.out⟩
end Go.Proofs.YtgjelinnpcekmaaGreatDoor
