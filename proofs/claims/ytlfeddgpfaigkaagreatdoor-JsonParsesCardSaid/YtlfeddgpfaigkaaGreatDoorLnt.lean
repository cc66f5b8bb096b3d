/-
  The walks of stratakit's MarkText, markTexts, FullTexts, LentTexts, KeptFullTexts and KeptTexts at this seat's translation: a list of texts with marks in its spare room.
-/
import Derived.Test.YtlfeddgpfaigkaaGreatDoorSmt
import Derived.Test.YtlfeddgpfaigkaaGreatDoorByt
import Derived.IntWalk
namespace Go.Proofs.YtlfeddgpfaigkaaGreatDoor
open Go.RowKit

/-- The mark of a place in a list. -/
def mtI (k : Nat) (i : Int) : List UInt8 := [35, .ofNat k, .ofNat (k / 256), .ofNat (i % 256).toNat, .ofNat (i / 256 % 256).toNat]
theorem mtI_cells (k : Nat) (i : Int) : Lib.byteCells (mtI k i) = [.int .u8 35, .int .u8 ((k : Int) % 256), .int .u8 ((k : Int) / 256 % 256), .int .u8 (i % 256), .int .u8 (i / 256 % 256)] := by
  simp only [Lib.byteCells, mtI, List.map_cons, List.map_nil, UInt8.toNat_ofNat']
  have h1 : (((i % 256).toNat % 2 ^ 8 : Nat) : Int) = i % 256 := by omega
  have h2 : (((i / 256 % 256).toNat % 2 ^ 8 : Nat) : Int) = i / 256 % 256 := by omega
  rw [h1, h2]
  rfl
set_option maxRecDepth 100000 in
theorem markTextI_any (k : Nat) (i : Int) (w : World) :
    Calls Tryz.prog 154 #[.int .i64 k, .int .i64 i] w fun e w' => e = .returned (.string ⟨(mtI k i).toArray⟩) ∧ Below w.heap.size w w' := by
  have hcv := run_convert_reads (P := Tryz.prog) Tryz.underlying74 Tryz.underlying5 Tryz.underlying9 5 (l := mtI k i) (by
    rw [mtI_cells]
    exact Reads.of_block (n := 5) (size := 1) (heap_alloc_new w (.cells #[.int .u8 35, .int .u8 ((k : Int) % 256), .int .u8 ((k : Int) / 256 % 256), .int .u8 (i % 256), .int .u8 (i / 256 % 256)] 5)) rfl)
  generalize mtI k i = x at hcv
  have hsh : ∀ z : Int, (z >>> (8 : Nat)) = z / 256 := fun z => by rw [Int.shiftRight_eq_div_pow]; rfl
  go_enter Tryz.func154, Tryz.ntmps154
  go_wp2
  go_ret
  exact ⟨rfl, (Below.refl _ _).alloc (Nat.le_refl _) _⟩
theorem markTexts_any (k : Nat) (i : Int) (w : World) :
    Calls Tryz.prog 118 #[.int .i64 k, .int .i64 i] w fun e w' => e = .returned (.string ⟨(mtI k i).toArray⟩) ∧ Below w.heap.size w w' := by
  have HM := Lib.hid (markTextI_any k i)
  go_enter Tryz.func118, Tryz.ntmps118
  go_wp2_with fail
  refine (HM.out _).mono ?_
  rintro e w' ⟨rfl, hb⟩
  have HB := Lib.hid hb
  clear hb
  go_wp2
  go_ret
  exact ⟨rfl, HB.out⟩
/-- The sixteen marks behind a lent list. -/
def lmk (n : Nat) : List (List UInt8) := (List.range n).map fun (i : Nat) => mtI 90 (i : Int)
theorem lmk_succ (n : Nat) : lmk (n + 1) = lmk n ++ [mtI 90 (n : Int)] := by unfold lmk; rw [List.range_succ, List.map_append]; rfl
theorem lmk_len (n : Nat) : (lmk n).length = n := by simp [lmk]
theorem lmk_getD (n k : Nat) (h : k < n) : (lmk n).getD k [] = mtI 90 (k : Int) := by simp [lmk, List.getD, h]
set_option maxHeartbeats 1000000 in
set_option maxRecDepth 100000 in
theorem fullTexts_any (A : Option Addr) (n c : Nat) (l : List (List UInt8)) (w : World) (hr : Reads w w.heap.size 1 A n (tx l)) (hn : n ≤ 4398046511104) :
    Calls Tryz.prog 88 #[.slice A n c] w fun e w' => ∃ v, e = .returned v ∧ w'.ownsRow w.heap.size 9 1 v (n + 16) (tx (l ++ lmk 16)) ∧ Below w.heap.size w w' := by
  obtain ⟨i0, hi0, hz0, hz1, hz2⟩ := info_parts infoStr
  have hl : l.length = n := by have := hr.1; rw [tx_length] at this; omega
  have HL := Lib.hid hl
  have HR := Lib.hid hr
  clear hl hr
  go_enter Tryz.func88, Tryz.ntmps88
  go_wp2_with fail
  go_loopw [3, 4] (fun v i wr => ∃ k : Nat, k ≤ n ∧ i = .int .i64 k ∧ Hid (wr.ownsRow w.heap.size 9 1 v k (tx (l.take k))) ∧ Hid (Below w.heap.size w wr)) (fun _ i _ => n - (intOf i).toNat)
  case atStart => exact ⟨0, by omega, rfl, Lib.hid (by simpa [tx] using World.ownsRow_nil _ _ _ _), Lib.hid (Below.refl _ _)⟩
  case round =>
    obtain ⟨k, hk, rfl, HO, HW⟩ := hrel
    by_cases hlt : k < n
    · obtain ⟨ad, u, rfl, _, hu, hc⟩ := (HR.out.below HW.out).at_ hlt
      obtain rfl := tx_get hu (by have := HL.out; omega)
      have HX : Hid (tx (l.take (k + 1)) = tx (l.take k) ++ [.string ⟨(l.getD k []).toArray⟩]) := Lib.hid (by
        have := HL.out
        rw [List.take_succ_eq_append_getElem (by omega), tx_append]
        simp [tx, List.getD, List.getElem?_eq_getElem (show k < l.length by omega)])
      clear hu
      generalize l.getD k [] = p at hc HX
      go_wp2_with (at_builtin; refine wpList_append_own _ rfl _ _ 23 rfl w.heap.size 9 i0 (.string ByteArray.empty) 1 16 Tryz.underlying23 hi0 hz0 hz1 hz2 rfl (by decide) _ _ _ rfl (HO.out.alloc _) ⟨wr.heap.size, 0, none⟩ 1 1 [.string ⟨p.toArray⟩] rfl rfl (cell_one_new _ _ _) (by intro x hx; simp at hx; subst hx; rfl) (by unfold maxLen; omega) (by omega) (by have := HW.out.size; simp; omega) ?_; intro v1 w1 hown1 hgrow1 hnil1)
      have hB1 : Hid (Below w.heap.size w w1) := Lib.hid (Below.grown (HW.out.alloc HW.out.size _) hgrow1 (by have := HW.out.size; simp; omega) (fun j hj => (HO.out.lt j hj).1))
      clear hgrow1 hnil1
      go_roundw
      case rel => exact ⟨k + 1, by omega, by go_num, Lib.hid (by rw [HX.out]; exact hown1), hB1⟩
      case measure => simp [intOf]; omega
    · have hkn : k = n := by omega
      subst hkn
      have ho2 := HO.out
      rw [List.take_of_length_le (by have := HL.out; omega)] at ho2
      rw [show tx l = tx (l ++ lmk 0) by simp [lmk]] at ho2
      have HO2 := Lib.hid ho2
      clear ho2
      clear HO
      obtain ⟨w0, hw0⟩ : ∃ w0, w0 = wr := ⟨_, rfl⟩
      subst hw0
      go_wp2_with fail
      go_loopw [3, 5] (fun v i wr => ∃ j : Nat, j ≤ 16 ∧ i = .int .i64 j ∧ Hid (wr.ownsRow w.heap.size 9 1 v (k + j) (tx (l ++ lmk j))) ∧ Hid (Below w.heap.size w wr)) (fun _ i _ => 16 - (intOf i).toNat)
      case atStart => exact ⟨0, by omega, rfl, Lib.hid (by simpa using HO2.out), HW⟩
      case round =>
        clear HO2 HW
        obtain ⟨j, hj, rfl, HO, HW⟩ := hrel
        by_cases hlt : j < 16
        · go_wp2_with fail
          refine (markTexts_any 90 (j : Int) wr).mono ?_
          rintro e w1 ⟨rfl, hb1⟩
          have HX : Hid (tx (l ++ lmk (j + 1)) = tx (l ++ lmk j) ++ [.string ⟨(mtI 90 (j : Int)).toArray⟩]) := Lib.hid (by rw [lmk_succ, ← List.append_assoc, tx_append]; rfl)
          have HO1 := Lib.hid (own_kept HO.out hb1)
          have HB1 := Lib.hid (HW.out.trans (hb1.mono HW.out.size))
          clear hb1 HO HW
          generalize mtI 90 (j : Int) = p at HX
          go_wp2_with (at_builtin; refine wpList_append_own _ rfl _ _ 23 rfl w.heap.size 9 i0 (.string ByteArray.empty) 1 16 Tryz.underlying23 hi0 hz0 hz1 hz2 rfl (by decide) _ _ _ rfl (HO1.out.alloc _) ⟨w1.heap.size, 0, none⟩ 1 1 [.string ⟨p.toArray⟩] rfl rfl (cell_one_new _ _ _) (by intro x hx; simp at hx; subst hx; rfl) (by unfold maxLen; omega) (by omega) (by have := HB1.out.size; simp; omega) ?_; intro v2 w2 hown2 hgrow2 hnil2)
          have hB2 : Hid (Below w.heap.size w w2) := Lib.hid (Below.grown (HB1.out.alloc HB1.out.size _) hgrow2 (by have := HB1.out.size; simp; omega) (fun j hj => (HO1.out.lt j hj).1))
          clear hgrow2 hnil2
          go_roundw
          case rel => exact ⟨j + 1, by omega, by go_num, Lib.hid (by rw [HX.out]; exact hown2), hB2⟩
          case measure => simp [intOf]; omega
        · have hkn : j = 16 := by omega
          subst hkn
          go_wp2
          go_ret
          exact ⟨_, rfl, HO.out, HW.out⟩
/-- What LentTexts leaves: the list, sixteen marks behind it. -/
theorem lentTexts_any (A : Option Addr) (n c : Nat) (l : List (List UInt8)) (w : World) (hr : Reads w w.heap.size 1 A n (tx l)) (hn : n ≤ 4398046511104) :
    Calls Tryz.prog 35 #[.slice A n c] w fun e w' => ∃ g c', e = .returned (.slice (some ⟨g, 0, none⟩) n c') ∧ n + 16 ≤ c' ∧ Reads w' w'.heap.size 1 (some ⟨g, 0, none⟩) (n + 16) (tx (l ++ lmk 16)) ∧ Below w.heap.size w w' := by
  have HF := Lib.hid (fullTexts_any A n c l w hr hn)
  clear hr
  go_enter Tryz.func35, Tryz.ntmps35
  go_wp2_with fail
  refine HF.out.mono ?_
  rintro e w1 ⟨v, rfl, ho, hb⟩
  obtain ⟨g, cap, rfl, hcp⟩ : ∃ g cap, v = .slice (some ⟨g, 0, none⟩) (n + 16) cap ∧ n + 16 ≤ cap := by
    rcases ho.2 with ⟨_, h⟩ | ⟨g, cap, cur, rfl, _, _, h, _⟩
    · omega
    · exact ⟨g, cap, rfl, h⟩
  have HB := Lib.hid hb
  have HR := Lib.hid (Reads.of_own ho)
  clear ho hb
  go_wp2
  go_ret
  exact ⟨g, _, rfl, by omega, HR.out, HB.out⟩
set_option maxHeartbeats 1000000 in
theorem keptFullTexts_any (A A' : Option Addr) (n c c' : Nat) (l : List (List UInt8)) (w : World) (hr : Reads w w.heap.size 1 A n (tx l)) (hr' : Reads w w.heap.size 1 A' (n + 16) (tx (l ++ lmk 16))) (hn : n ≤ 4398046511104) :
    Calls Tryz.prog 102 #[.slice A' (n + 16 : Nat) c', .slice A n c] w fun e w' => e = .returned (.bool true) ∧ Below w.heap.size w w' := by
  have hl : l.length = n := by have := hr.1; rw [tx_length] at this; omega
  have HL := Lib.hid hl
  have HR := Lib.hid hr
  have HR' := Lib.hid hr'
  clear hl hr hr'
  go_enter Tryz.func102, Tryz.ntmps102
  go_wp2_with fail
  go_loopw [5] (fun i wr => ∃ k : Nat, k ≤ n + 16 ∧ i = .int .i64 k ∧ Hid (Below w.heap.size w wr)) (fun i _ => n + 16 - (intOf i).toNat)
  case atStart => exact ⟨0, by omega, rfl, Lib.hid (Below.refl _ _)⟩
  case round =>
    obtain ⟨k, hk, rfl, HW⟩ := hrel
    by_cases hlt : k < n + 16
    · go_wp2_with fail
      refine (markTexts_any 90 ((k : Int) - n) wr).mono ?_
      rintro e w1 ⟨rfl, hb1⟩
      have HB1 := Lib.hid (HW.out.trans (hb1.mono HW.out.size))
      clear hb1 HW
      obtain ⟨ad', u', rfl, _, hu', hc'⟩ := (HR'.out.below HB1.out).at_ hlt
      obtain rfl := tx_get hu' (by have := HL.out; simp [lmk_len]; omega)
      clear hu'
      by_cases hkn : k < n
      · obtain ⟨ad, u, rfl, _, hu, hc⟩ := (HR.out.below HB1.out).at_ hkn
        obtain rfl := tx_get hu (by have := HL.out; omega)
        have hx : (l ++ lmk 16).getD k [] = l.getD k [] := by simp [List.getD, List.getElem?_append_left (show k < l.length by have := HL.out; omega)]
        rw [hx] at hc'
        clear hu hx
        generalize l.getD k [] = p at hc hc'
        generalize mtI 90 ((k : Int) - n) = q
        have c1 := fun wx => neq_texts p p wx
        rw [decide_eq_false (by simp)] at c1
        go_wp2_with fail
        go_roundw
        case rel => exact ⟨k + 1, by omega, by go_num, HB1⟩
        case measure => simp [intOf]; omega
      · have hx : (l ++ lmk 16).getD k [] = mtI 90 ((k : Int) - n) := by
          have := HL.out
          rw [show ((k : Int) - n) = ((k - n : Nat) : Int) by omega, ← lmk_getD 16 (k - n) (by omega)]
          simp [List.getD, List.getElem?_append_right (show l.length ≤ k by omega), this]
        rw [hx] at hc'
        clear hx
        generalize mtI 90 ((k : Int) - n) = q at hc'
        have c1 := fun wx => neq_texts q q wx
        rw [decide_eq_false (by simp)] at c1
        go_wp2_with fail
        go_roundw
        case rel => exact ⟨k + 1, by omega, by go_num, HB1⟩
        case measure => simp [intOf]; omega
    · go_wp2
      go_ret
      exact ⟨rfl, HW.out⟩
theorem keptTexts_any (A : Option Addr) (g n c c' : Nat) (l : List (List UInt8)) (w : World) (hr : Reads w w.heap.size 1 A n (tx l)) (hc : n + 16 ≤ c') (hr' : Reads w w.heap.size 1 (some ⟨g, 0, none⟩) (n + 16) (tx (l ++ lmk 16))) (hn : n ≤ 4398046511104) :
    Calls Tryz.prog 43 #[.slice (some ⟨g, 0, none⟩) n c', .slice A n c] w fun e w' => e = .returned (.bool true) ∧ Below w.heap.size w w' := by
  have HK := Lib.hid (fun c c' => keptFullTexts_any A (some ⟨g, 0, none⟩) n c c' l w hr hr' hn)
  clear hr hr'
  go_enter Tryz.func43, Tryz.ntmps43
  go_wp2_with fail
  refine (HK.out _ _).mono ?_
  rintro e w1 ⟨rfl, hb⟩
  have HB := Lib.hid hb
  clear hb
  go_wp2
  go_ret
  exact ⟨rfl, HB.out⟩
end Go.Proofs.YtlfeddgpfaigkaaGreatDoor
