/-
  The walks of stratakit's MarkText, markPairs, FullPairs, LentPairs, KeptFullPairs and KeptPairs at this seat's translation: a list of pairs with marks in its spare room.
-/
import Derived.Test.YtnmnhnhlggbijaaDoorPrs
import Derived.Test.YtnmnhnhlggbijaaDoorLnt
import Derived.Test.YtnmnhnhlggbijaaDoorByt
import Derived.Test.YtnmnhnhlggbijaaDoorApa
import Derived.IntWalk
import Derived.Laws.StructEq
import Derived.StillTailTactics
namespace Go.Proofs.YtnmnhnhlggbijaaDoor
open Go.RowKit
theorem infoPair : (Tryd.prog.info? 52).map (fun i => (i.zero, i.size, i.bytes)) = some (some (.agg #[.string .empty, .string .empty]), 2, 32) := by kernel_rfl
theorem infoPair2 : (Tryd.prog.info? 52).map (·.size) = some 2 := by kernel_rfl
def mark4 : List UInt8 := [109, 97, 114, 107]
theorem markPairs_any (k : Nat) (i : Int) (w : World) :
    Calls Tryd.prog 40 #[.int .i64 k, .int .i64 i] w fun e w' => e = .returned (.agg #[.string ⟨(mtI k i).toArray⟩, .string ⟨#[109, 97, 114, 107]⟩]) ∧ Below w.heap.size w w' := by
  have HM := Lib.hid (markTextI_any k i (w.alloc (.cells #[.string ⟨#[]⟩, .string ⟨#[]⟩] 52)))
  have HB := Lib.hid (Blk.new w 52 #[.string ⟨#[]⟩, .string ⟨#[]⟩])
  generalize mtI k i = u at HM ⊢
  go_enter Tryd.func40, Tryd.ntmps40
  go_wp2_with fail
  refine HM.out.mono ?_
  rintro e w1 ⟨rfl, hb⟩
  have HB1 := Lib.hid (HB.out.below hb (by simp))
  have HBL := Lib.hid (((Below.refl w.heap.size w).alloc (Nat.le_refl _) _).trans (hb.mono (by simp)))
  clear hb
  have d0 := HB1.out.cell 0
  have d1 := HB1.out.cell 1
  have g0 := HB1.out.frozen 0
  have g1 := HB1.out.frozen 1
  simp only [List.getElem?_toArray, List.getElem?_cons_zero, List.getElem?_cons_succ] at d0 d1
  go_wp2_with fail
  have h0 : Blk (w1.setCell ⟨w.heap.size, 0, none⟩ (.string ⟨u.toArray⟩)) w.heap.size 52 #[.string ⟨u.toArray⟩, .string ⟨#[]⟩] := HB1.out.set_ 0 _
  have h1 : Blk ((w1.setCell ⟨w.heap.size, 0, none⟩ (.string ⟨u.toArray⟩)).setCell ⟨w.heap.size, 1, none⟩ (.string ⟨#[109, 97, 114, 107]⟩)) w.heap.size 52 #[.string ⟨u.toArray⟩, .string ⟨#[109, 97, 114, 107]⟩] := h0.set_ 1 _
  exact bodyPost_ret (results_row rfl _ _ w.heap.size 52 #[.string ⟨u.toArray⟩, .string ⟨#[109, 97, 114, 107]⟩] (0, 0) _ rfl h1 Tryd.underlying52 rfl infoPair2) rfl ⟨rfl, (HBL.out.setCell (p := ⟨w.heap.size, 0, none⟩) (Nat.le_refl _) _).setCell (p := ⟨w.heap.size, 1, none⟩) (Nat.le_refl _) _⟩
/-- The sixteen marks behind a lent list of pairs. -/
def pmk (n : Nat) : List (List UInt8 × List UInt8) := (List.range n).map fun (i : Nat) => (mtI 90 (i : Int), [109, 97, 114, 107])
theorem pmk_succ (n : Nat) : pmk (n + 1) = pmk n ++ [(mtI 90 (n : Int), [109, 97, 114, 107])] := by unfold pmk; rw [List.range_succ, List.map_append]; rfl
theorem pmk_len (n : Nat) : (pmk n).length = n := by simp [pmk]
theorem pmk_getD (n k : Nat) (h : k < n) : (pmk n).getD k ([], []) = (mtI 90 (k : Int), [109, 97, 114, 107]) := by simp [pmk, List.getD, h]
theorem reads_new2 (w : World) (a0 a1 : Value) : Reads (w.alloc (.cells #[a0, a1] 52)) (w.alloc (.cells #[a0, a1] 52)).heap.size 2 (some ⟨w.heap.size, 0, none⟩) 1 [a0, a1] := Reads.of_block (heap_alloc_new w _) rfl
theorem one2 (p q : List UInt8) : ∀ u ∈ [Value.string ⟨p.toArray⟩, Value.string ⟨q.toArray⟩], u.oneCell' = true := by intro x hx; simp at hx; rcases hx with rfl | rfl <;> rfl
theorem px_take_succ (l : List (List UInt8 × List UInt8)) (k : Nat) (h : k < l.length) : px (l.take (k + 1)) = px (l.take k) ++ [.string ⟨(l.getD k ([], [])).1.toArray⟩, .string ⟨(l.getD k ([], [])).2.toArray⟩] := by
  rw [List.take_succ_eq_append_getElem h, px_append]
  simp [px, List.getD, List.getElem?_eq_getElem h]
set_option maxHeartbeats 1000000 in
set_option maxRecDepth 100000 in
theorem fullPairs_any (A : Option Addr) (n c : Nat) (l : List (List UInt8 × List UInt8)) (w : World) (hr : Reads w w.heap.size 2 A n (px l)) (hn : n ≤ 1099511627776) :
    Calls Tryd.prog 25 #[.slice A n c] w fun e w' => ∃ v, e = .returned v ∧ w'.ownsRow w.heap.size 52 2 v (n + 16) (px (l ++ pmk 16)) ∧ Below w.heap.size w w' := by
  obtain ⟨i0, hi0, hz0, hz1, hz2⟩ := info_parts infoPair
  have hl : l.length = n := by have := hr.1; rw [px_length] at this; omega
  have HL := Lib.hid hl
  have HR := Lib.hid hr
  clear hl hr
  go_enter Tryd.func25, Tryd.ntmps25
  go_wp2_with fail
  go_loopw [3, 4] (fun v i wr => ∃ k : Nat, k ≤ n ∧ i = .int .i64 k ∧ Hid (wr.ownsRow w.heap.size 52 2 v k (px (l.take k))) ∧ Hid (Below w.heap.size w wr)) (fun _ i _ => n - (intOf i).toNat)
  case atStart => exact ⟨0, by omega, rfl, Lib.hid (by simpa [px] using World.ownsRow_nil _ _ _ _), Lib.hid (Below.refl _ _)⟩
  case round =>
    obtain ⟨k, hk, rfl, HO, HW⟩ := hrel
    by_cases hlt : k < n
    · obtain ⟨ad, rfl, _, k0, k1⟩ := at_pair (HR.out.below HW.out) hlt
      have HX := Lib.hid (px_take_succ l k (by have := HL.out; omega))
      generalize (l.getD k ([], [])).1 = p at k0 HX
      generalize (l.getD k ([], [])).2 = q at k1 HX
      go_wp2_with (at_builtin; refine wpList_append_any _ rfl _ _ 22 rfl w.heap.size 52 i0 _ 2 32 Tryd.underlying22 hi0 hz0 hz1 hz2 rfl (by decide) _ _ _ rfl (World.ownsRow.alloc HO.out _) _ _ 1 1 [.string ⟨p.toArray⟩, .string ⟨q.toArray⟩] rfl (reads_new2 _ _ _) (one2 p q) (by unfold maxLen; omega) (by omega) (by have := HW.out.size; simp; omega) ?_; intro v1 w1 hown1 hgrow1 _; have HO1 := Lib.hid hown1; have HB1 : Hid (Below w.heap.size w w1) := Lib.hid (Below.grown (HW.out.alloc HW.out.size _) hgrow1 (by have := HW.out.size; simp; omega) (fun j hj => (HO.out.lt j hj).1)); clear hown1 hgrow1)
      go_roundw
      case rel => exact ⟨k + 1, by omega, by go_num, Lib.hid (by rw [HX.out]; exact HO1.out), HB1⟩
      case measure => simp [intOf]; omega
    · have hkn : k = n := by omega
      subst hkn
      have ho2 := HO.out
      rw [List.take_of_length_le (by have := HL.out; omega)] at ho2
      rw [show px l = px (l ++ pmk 0) by simp [pmk]] at ho2
      have HO2 := Lib.hid ho2
      clear ho2
      clear HO
      obtain ⟨w0, hw0⟩ : ∃ w0, w0 = wr := ⟨_, rfl⟩
      subst hw0
      go_wp2_with fail
      go_loopw [3, 5] (fun v i wr => ∃ j : Nat, j ≤ 16 ∧ i = .int .i64 j ∧ Hid (wr.ownsRow w.heap.size 52 2 v (k + j) (px (l ++ pmk j))) ∧ Hid (Below w.heap.size w wr)) (fun _ i _ => 16 - (intOf i).toNat)
      case atStart => exact ⟨0, by omega, rfl, Lib.hid (by simpa using HO2.out), HW⟩
      case round =>
        clear HO2 HW
        obtain ⟨j, hj, rfl, HO, HW⟩ := hrel
        by_cases hlt : j < 16
        · go_wp2_with fail
          refine (markPairs_any 90 (j : Int) wr).mono ?_
          rintro e w1 ⟨rfl, hb1⟩
          have HX : Hid (px (l ++ pmk (j + 1)) = px (l ++ pmk j) ++ [.string ⟨(mtI 90 (j : Int)).toArray⟩, .string ⟨([109, 97, 114, 107] : List UInt8).toArray⟩]) := Lib.hid (by rw [pmk_succ, ← List.append_assoc, px_append]; rfl)
          have HO1 := Lib.hid (own_kept HO.out hb1)
          have HB1 := Lib.hid (HW.out.trans (hb1.mono HW.out.size))
          clear hb1 HO HW
          generalize mtI 90 (j : Int) = p at HX
          go_wp2_with (at_builtin; refine wpList_append_any _ rfl _ _ 22 rfl w.heap.size 52 i0 _ 2 32 Tryd.underlying22 hi0 hz0 hz1 hz2 rfl (by decide) _ _ _ rfl (World.ownsRow.alloc HO1.out _) _ _ 1 1 [.string ⟨p.toArray⟩, .string ⟨([109, 97, 114, 107] : List UInt8).toArray⟩] rfl (reads_new2 _ _ _) (one2 p _) (by unfold maxLen; omega) (by omega) (by have := HB1.out.size; simp; omega) ?_; intro v2 w2 hown2 hgrow2 _; have HO2 := Lib.hid hown2; have HB2 : Hid (Below w.heap.size w w2) := Lib.hid (Below.grown (HB1.out.alloc HB1.out.size _) hgrow2 (by have := HB1.out.size; simp; omega) (fun j hj => (HO1.out.lt j hj).1)); clear hown2 hgrow2)
          go_roundw
          case rel => exact ⟨j + 1, by omega, by go_num, Lib.hid (by rw [HX.out]; exact HO2.out), HB2⟩
          case measure => simp [intOf]; omega
        · have hkn : j = 16 := by omega
          subst hkn
          go_wp2
          go_ret
          exact ⟨_, rfl, HO.out, HW.out⟩
theorem lentPairs_any (A : Option Addr) (n c : Nat) (l : List (List UInt8 × List UInt8)) (w : World) (hr : Reads w w.heap.size 2 A n (px l)) (hn : n ≤ 1099511627776) :
    Calls Tryd.prog 9 #[.slice A n c] w fun e w' => ∃ g c', e = .returned (.slice (some ⟨g, 0, none⟩) n c') ∧ n + 16 ≤ c' ∧ Reads w' w'.heap.size 2 (some ⟨g, 0, none⟩) (n + 16) (px (l ++ pmk 16)) ∧ Below w.heap.size w w' := by
  have HF := Lib.hid (fullPairs_any A n c l w hr hn)
  clear hr
  go_enter Tryd.func9, Tryd.ntmps9
  go_wp2_with fail
  refine HF.out.mono ?_
  rintro e w1 ⟨v, rfl, ho, hb⟩
  obtain ⟨g, cap, rfl, hcp⟩ : ∃ g cap, v = .slice (some ⟨g, 0, none⟩) (n + 16) cap ∧ n + 16 ≤ cap := by
    rcases ho.2 with ⟨_, h⟩ | ⟨g, cap, cur, rfl, _, _, h, _⟩
    · omega
    · exact ⟨g, cap, rfl, h⟩
  have HB := Lib.hid hb
  have HR := Lib.hid (Reads.of_own ho)
  clear ho hb
  go_wp2
  go_ret
  exact ⟨g, _, rfl, by omega, HR.out, HB.out⟩
theorem neq_pair (a b p q : List UInt8) (w : World) :
    (binOp .neq 52 (.agg #[.string ⟨a.toArray⟩, .string ⟨p.toArray⟩]) (.agg #[.string ⟨b.toArray⟩, .string ⟨q.toArray⟩])).run Tryd.prog w = .ok (.bool (decide ((a, p) ≠ (b, q)))) w := by
  go_simp
  by_cases h : a = b <;> by_cases g : p = q <;> simp [h, g]
theorem px_getL (l m : List (List UInt8 × List UInt8)) (k : Nat) (h : k < l.length) : (l ++ m).getD k ([], []) = l.getD k ([], []) := by simp [List.getD, List.getElem?_append_left h]
set_option maxHeartbeats 1000000 in
set_option maxRecDepth 100000 in
theorem keptFullPairs_any (A A' : Option Addr) (n c c' : Nat) (l : List (List UInt8 × List UInt8)) (w : World) (hr : Reads w w.heap.size 2 A n (px l)) (hr' : Reads w w.heap.size 2 A' (n + 16) (px (l ++ pmk 16))) (hn : n ≤ 1099511627776) :
    Calls Tryd.prog 29 #[.slice A' (n + 16 : Nat) c', .slice A n c] w fun e w' => e = .returned (.bool true) ∧ Below w.heap.size w w' := by
  have hl : l.length = n := by have := hr.1; rw [px_length] at this; omega
  have HL := Lib.hid hl
  have HR := Lib.hid hr
  have HR' := Lib.hid hr'
  clear hl hr hr'
  go_enter Tryd.func29, Tryd.ntmps29
  go_wp2_with fail
  go_loopw [5] (fun i wr => ∃ k : Nat, k ≤ n + 16 ∧ i = .int .i64 k ∧ Hid (Below w.heap.size w wr)) (fun i _ => n + 16 - (intOf i).toNat)
  case atStart => exact ⟨0, by omega, rfl, Lib.hid (Below.refl _ _)⟩
  case round =>
    obtain ⟨k, hk, rfl, HW⟩ := hrel
    by_cases hlt : k < n + 16
    · go_wp2_with fail
      refine (markPairs_any 90 ((k : Int) - n) wr).mono ?_
      rintro e w1 ⟨rfl, hb1⟩
      have HB1 := Lib.hid (HW.out.trans (hb1.mono HW.out.size))
      clear hb1 HW
      obtain ⟨ad', rfl, hab', k0', k1'⟩ := at_pair (HR'.out.below HB1.out) hlt
      have hne' : ¬ ad'.block = w1.heap.size := by have := HB1.out.size; omega
      by_cases hkn : k < n
      · obtain ⟨ad, rfl, hab, k0, k1⟩ := at_pair (HR.out.below HB1.out) hkn
        have hne : ¬ ad.block = w1.heap.size := by have := HB1.out.size; omega
        rw [px_getL l _ k (by have := HL.out; omega)] at k0' k1'
        generalize (l.getD k ([], [])).1 = p at k0 k0'
        generalize (l.getD k ([], [])).2 = q at k1 k1'
        generalize mtI 90 ((k : Int) - n) = u
        have cn := fun wx => neq_pair p p q q wx
        rw [decide_eq_false (by simp)] at cn
        have j0 := fun o => (World.cell?_alloc_lt w1 o (ad'.add (k * 2)) (by rw [block_of_add]; have := HB1.out.size; omega)).trans k0'
        have j1 := fun o => (World.cell?_alloc_lt w1 o ⟨(ad'.add (k * 2)).block, (ad'.add (k * 2)).off + 1, none⟩ (by show (ad'.add (k * 2)).block < _; rw [block_of_add]; have := HB1.out.size; omega)).trans k1'
        have i0 := fun o => (World.cell?_alloc_lt w1 o (ad.add (k * 2)) (by rw [block_of_add]; have := HB1.out.size; omega)).trans k0
        have i1 := fun o => (World.cell?_alloc_lt w1 o ⟨(ad.add (k * 2)).block, (ad.add (k * 2)).off + 1, none⟩ (by show (ad.add (k * 2)).block < _; rw [block_of_add]; have := HB1.out.size; omega)).trans k1
        have HBA := Lib.hid (fun o => HB1.out.alloc HB1.out.size o)
        clear hab hab' k0 k1 k0' k1' hne hne'
        go_wp2_with fail
        go_quiet (fail)
        go_wp2_with fail
        go_roundw
        case rel => exact ⟨k + 1, by omega, by go_num, Lib.hid (below_drewN (HBA.out _) _)⟩
        case measure => simp [intOf]; omega
      · have hx : (l ++ pmk 16).getD k ([], []) = (mtI 90 ((k : Int) - n), [109, 97, 114, 107]) := by
          have := HL.out
          rw [show ((k : Int) - n) = ((k - n : Nat) : Int) by omega, ← pmk_getD 16 (k - n) (by omega)]
          simp [List.getD, List.getElem?_append_right (show l.length ≤ k by omega), this]
        rw [hx] at k0' k1'
        clear hx
        obtain ⟨q, hq⟩ : ∃ q : List UInt8, q = [109, 97, 114, 107] := ⟨_, rfl⟩
        have HQ := Lib.hid hq
        rw [show (⟨#[109, 97, 114, 107]⟩ : ByteArray) = ⟨q.toArray⟩ by rw [hq]]
        rw [← hq] at k1'
        clear hq
        generalize mtI 90 ((k : Int) - n) = p at k0' ⊢
        have cn := fun wx => neq_pair p p q q wx
        rw [decide_eq_false (by simp)] at cn
        have j0 := fun o => (World.cell?_alloc_lt w1 o (ad'.add (k * 2)) (by rw [block_of_add]; have := HB1.out.size; omega)).trans k0'
        have j1 := fun o => (World.cell?_alloc_lt w1 o ⟨(ad'.add (k * 2)).block, (ad'.add (k * 2)).off + 1, none⟩ (by show (ad'.add (k * 2)).block < _; rw [block_of_add]; have := HB1.out.size; omega)).trans k1'
        have HBA := Lib.hid (fun o => HB1.out.alloc HB1.out.size o)
        clear hab' k0' k1' hne'
        go_wp2_with fail
        go_quiet (fail)
        go_wp2_with fail
        go_roundw
        case rel => exact ⟨k + 1, by omega, by go_num, Lib.hid (below_drewN (HBA.out _) _)⟩
        case measure => simp [intOf]; omega
    · go_wp2
      go_ret
      exact ⟨rfl, HW.out⟩
end Go.Proofs.YtnmnhnhlggbijaaDoor
