/-
  The walk of the document's Reader (strataref04): value.
  The walk of the document's Parse (strataref04).
-/
import Derived.Test.YtlfeddgpfaigkaaGreatDoorJsQi
import Derived.Test.YtlfeddgpfaigkaaGreatDoorJsCr
import Derived.Test.YtlfeddgpfaigkaaGreatDoorJsPa
namespace Go.Proofs.YtlfeddgpfaigkaaGreatDoor
open Go.RowKit
namespace Js
theorem pre_ne {x c : UInt8} {xs r : List UInt8} (h : c ≠ x) : (x :: xs).isPrefixOf (c :: r) = false := by
  simp [List.isPrefixOf, Ne.symm h]
theorem atom_n (r : List UInt8) : atom (110 :: r) = if [110, 117, 108, 108].isPrefixOf (110 :: r) then some (.ok (plainH 0) .nil ((110 :: r).drop 4)) else some (.err 4 (110 :: r)) := by
  unfold atom
  split
  · rfl
  · rw [if_neg (by rw [pre_ne (by decide)]; decide), if_neg (by rw [pre_ne (by decide)]; decide)]
    rfl
theorem atom_f (r : List UInt8) : atom (102 :: r) = if [102, 97, 108, 115, 101].isPrefixOf (102 :: r) then some (.ok (plainH 1) .nil ((102 :: r).drop 5)) else some (.err 4 (102 :: r)) := by
  unfold atom
  rw [if_neg (by rw [pre_ne (by decide)]; decide)]
  split
  · rfl
  · rw [if_neg (by rw [pre_ne (by decide)]; decide)]
    rfl
theorem atom_t (r : List UInt8) : atom (116 :: r) = if [116, 114, 117, 101].isPrefixOf (116 :: r) then some (.ok (plainH 2) .nil ((116 :: r).drop 4)) else some (.err 4 (116 :: r)) := by
  unfold atom
  rw [if_neg (by rw [pre_ne (by decide)]; decide), if_neg (by rw [pre_ne (by decide)]; decide)]
  split <;> rfl
theorem atom_else {c : UInt8} {r : List UInt8} (h1 : c ≠ 110) (h2 : c ≠ 102) (h3 : c ≠ 116) : atom (c :: r) = if c = 34 then some (txt r).out else if c = 91 ∨ c = 123 then none else if c = 45 ∨ (48 ≤ c.toNat ∧ c.toNat ≤ 57) then some (numOut (c :: r)) else some (.err 4 (c :: r)) := by
  unfold atom
  rw [if_neg (by rw [pre_ne h1]; decide), if_neg (by rw [pre_ne h2]; decide), if_neg (by rw [pre_ne h3]; decide)]
/-- The value's memory while it is read. -/
structure VS (rb : Nat) (w wr : World) (cs : Array Value) : Prop where
  b0 : Blk wr w.heap.size 25 #[.int .i64 0, .int .i64 0, .string ⟨#[]⟩, .slice none 0 0, .slice none 0 0]
  b1 : Blk wr (w.heap.size + 1) 25 cs
  kr : KR rb w wr
  rb : rb < w.heap.size
section
variable {rb : Nat} {s : List UInt8} {w wr w1 : World} {cs : Array Value}
theorem VS.size (h : VS rb w wr cs) : w.heap.size + 2 ≤ wr.heap.size := by have := h.b1.lt; omega
theorem VS.step (h : VS rb w wr cs) (k : KR rb wr w1) : VS rb w w1 cs :=
  ⟨Kp.blk k h.b0 h.b0.lt (by have := h.rb; omega), Kp.blk k h.b1 h.b1.lt (by have := h.rb; omega), kr_trans h.kr k, h.rb⟩
theorem VS.set (h : VS rb w wr cs) (n : Nat) (u : Value) : VS rb w (wr.setCell ⟨w.heap.size + 1, n, none⟩ u) (cs.setIfInBounds n u) :=
  ⟨h.b0.far (p := ⟨w.heap.size + 1, n, none⟩) (by show w.heap.size ≠ w.heap.size + 1; omega) u, h.b1.set_ n u, Kp.setCell h.kr (.inl (by show w.heap.size ≤ w.heap.size + 1; omega)) u, h.rb⟩
theorem VS.far {i e wh : Nat} (h : VS rb w wr cs) (hr : Rb wr rb s i e wh) (n : Nat) (u : Value) : Rb (wr.setCell ⟨w.heap.size + 1, n, none⟩ u) rb s i e wh :=
  Blk.far hr (p := ⟨w.heap.size + 1, n, none⟩) (by have := h.rb; show rb ≠ w.heap.size + 1; omega) u
/-- The value is answered. -/
theorem vl_end {i d : Nat} {h : Hd} {k : F} {A A' : Option Addr} {c c' : Nat} {S : Nat → Prop} (hv : VS rb w wr cs) (hcs : cs = #[.int .i64 h.kind, .int .i64 h.num, .string ⟨h.text.toArray⟩, .slice A k.len c, .slice A' h.keys.length c']) (htv : TV encJ wr S h k (jcells h (.slice A k.len c) (.slice A' h.keys.length c'))) (hS : ∀ b, S b → w.heap.size + 1 ≤ b ∧ b < wr.heap.size) (a : AgV rb s wr (val d (s.drop i)) h k) :
    VlP rb s i d w (.returned (.agg cs)) (wr.setRow w.heap.size cs) := by
  subst hcs
  have hrb := hv.rb
  refine ⟨h, k, A, c, A', c', rfl, (htv.kept fun p hp => cell_setRow_other _ _ _ _ (by have := (hS _ hp).1; omega)).more fun b hb => ⟨by have := (hS b hb).1; omega, by rw [setRow_size]; exact (hS b hb).2⟩, ?_, agV_at a (setRow_other _ _ _ _ (by omega))⟩
  exact Kp.trans hv.kr (Kp.of_below (below_setRow (Below.refl w.heap.size wr) (Nat.le_refl _) _))
theorem tv_atomR (w : World) (h : Hd) (hk : h.keys = []) : TV encJ w (fun _ => False) h .nil (jcells h (.slice none F.nil.len 0) (.slice none h.keys.length 0)) :=
  ⟨none, 0, none, 0, [], rfl, by simp [F.len], ⟨by rw [hk]; simp, fun e => by cases e⟩, RdS.none_, rfl, by rw [hk]; exact RdS.none_⟩
theorem vl_atom {i d : Nat} {h : Hd} (hv : VS rb w wr cs) (hk : h.keys = []) (hcs : cs = #[.int .i64 h.kind, .int .i64 h.num, .string ⟨h.text.toArray⟩, .slice none 0 0, .slice none 0 0]) (a : AgV rb s wr (val d (s.drop i)) h .nil) :
    VlP rb s i d w (.returned (.agg cs)) (wr.setRow w.heap.size cs) :=
  vl_end hv (by rw [hcs, hk]; rfl) (tv_atomR wr h hk) (fun _ h => h.elim) a
end
set_option maxHeartbeats 12800000 in
set_option maxRecDepth 100000 in
theorem value_step (rb : Nat) (s : List UInt8) (n : Nat) (hs : s.length ≤ 4398046511104) (hI : ∀ m, m < n → ItC rb s m) (hM : ∀ m, m < n → MmC rb s m) : VlC rb s n := by
  intro i d wh w hi hn hd hr
  have HRB : Hid (rb < w.heap.size) := Lib.hid (Blk.lt hr)
  have HI := Lib.hid hI
  have HMM := Lib.hid hM
  have HN := Lib.hid hn
  obtain ⟨wz, hwz⟩ : ∃ wz, wz = (w.alloc (.cells #[.int .i64 0, .int .i64 0, .string ⟨#[]⟩, .slice none 0 0, .slice none 0 0] 25)).alloc (.cells #[.int .i64 0, .int .i64 0, .string ⟨#[]⟩, .slice none 0 0, .slice none 0 0] 25) := ⟨_, rfl⟩
  have HVZ : Hid (VS rb w wz #[.int .i64 0, .int .i64 0, .string ⟨#[]⟩, .slice none 0 0, .slice none 0 0]) := Lib.hid (by
    have hb : Below w.heap.size w wz := by rw [hwz]; exact ((Below.refl _ _).alloc (Nat.le_refl _) _).alloc (by simp) _
    refine ⟨by rw [hwz]; exact Blk.alloc (Blk.new _ _ _) _, ?_, kr_below (kr_refl _ _) hb, HRB.out⟩
    have := Blk.new (w.alloc (.cells #[.int .i64 0, .int .i64 0, .string ⟨#[]⟩, .slice none 0 0, .slice none 0 0] 25)) 25 #[.int .i64 0, .int .i64 0, .string ⟨#[]⟩, .slice none 0 0, .slice none 0 0]
    rw [World.size_alloc] at this
    rw [hwz]; exact this)
  have HRZ : Hid (Rb wz rb s i 0 wh) := Lib.hid (by rw [hwz]; exact Blk.alloc (Blk.alloc hr _) _)
  have HBL := Lib.hid (blanksR_any rb s i 0 wh wz HRZ.out hi hs)
  clear hr hI hM hn
  go_enter Tryz.func46, Tryz.ntmps46
  go_upto_region 2 with fail
  rw [← hwz]
  clear hwz
  go_wp2_with fail
  refine HBL.out.mono ?_
  rintro x w1 ⟨rfl, hr1, hk1⟩
  obtain ⟨hq1, hq2⟩ := blA_ge hi
  have HDB : Hid (s.drop (blA s i) = bl (s.drop i)) := Lib.hid (drop_blA s i)
  generalize blA s i = q at hr1 hq1 hq2 HDB
  have HR1 := Lib.hid hr1
  have HV1 := Lib.hid (HVZ.out.step hk1)
  clear hr1 hk1 HBL HVZ HRZ
  by_cases hlt : q < s.length
  · have HE := Lib.hid (endR_f rb s q 0 wh w1 HR1.out hlt)
    have hidx := run_index_list Tryz.underlying9 s q hlt
    have HDG0 := Lib.hid (drop_get hlt)
    have HVE0 : Hid (val d (s.drop i) = if 32 < d then .err 5 (s.drop q) else match atom (s.drop q) with
      | some o => o
      | none => if s.getD q 0 = 91 then listO d (s.drop (q + 1)) else objO d (s.drop (q + 1))) := Lib.hid (by rw [val_eq, ← HDB.out, HDG0.out]; rfl)
    obtain ⟨c, hcq⟩ : ∃ c, c = s.getD q 0 := ⟨_, rfl⟩
    rw [← hcq] at hidx
    have HDG : Hid (s.drop q = c :: s.drop (q + 1)) := Lib.hid (by rw [hcq]; exact HDG0.out)
    have HCQ := Lib.hid hcq
    clear HDG0 hcq
    go_wp2_with fail
    refine HE.out.mono ?_
    rintro x wx ⟨rfl, n1, rfl⟩
    have HR2 : Hid (Rb (w1.drewN n1) rb s q 0 wh) := Lib.hid HR1.out
    have HV2 := Lib.hid (HV1.out.step (kr_drewN rb w1 n1))
    clear HR1 HV1 HE
    generalize w1.drewN n1 = w2 at HR2 HV2 ⊢
    obtain ⟨c0, c1, _, _⟩ := HR2.out.cells
    by_cases h32 : 32 < d
    · have l1 : ((32 : Int) < (d : Int)) = True := eq_true (by omega)
      have HVE : Hid (val d (s.drop i) = .err 5 (s.drop q)) := Lib.hid (by rw [HVE0.out, if_pos h32])
      clear h32 hidx
      have HF := Lib.hid (failR_any rb s q wh 5 q w2 HR2.out)
      go_wp2_with fail
      refine HF.out.mono ?_
      rintro x w9 ⟨rfl, hr9, hk9⟩
      have HV9 := Lib.hid (HV2.out.step hk9)
      have HAG : Hid (AgV rb s w9 (val d (s.drop i)) ⟨0, 0, [], []⟩ .nil) := Lib.hid (.inr ⟨5, s.drop q, q, by decide, hq2, HVE.out, by rw [len_drop hq2]; exact hr9⟩)
      clear hr9 hk9 HF
      have y0 := HV9.out.b1.cell 0
      have y1 := HV9.out.b1.cell 1
      have y2 := HV9.out.b1.cell 2
      have y3 := HV9.out.b1.cell 3
      have y4 := HV9.out.b1.cell 4
      go_wp2_with (refine wpList_store_row rfl 25 _ _ rfl _ _ rfl rfl 25 _ HV9.out.b0 (by kernel_rfl) rfl (by simp [Value.oneCell']) ?_)
      exact bodyPost_ret (results_row rfl _ _ w.heap.size 25 _ (0, 0) _ rfl (setRow_heap _ _ _ _ _ _ HV9.out.b0) Tryz.underlying25 rfl (by kernel_rfl)) rfl (vl_atom HV9.out rfl rfl HAG.out)
    · have l1 : ((32 : Int) < (d : Int)) = False := eq_false (by omega)
      have HVE : Hid (val d (s.drop i) = match atom (s.drop q) with
        | some o => o
        | none => if c = 91 then listO d (s.drop (q + 1)) else objO d (s.drop (q + 1))) := Lib.hid (by rw [HVE0.out, if_neg h32, HCQ.out])
      go_wp2_with fail
      go_quiet (fail)
      have HR3 : Hid (Rb (w2.drewN nq) rb s q 0 wh) := Lib.hid HR2.out
      have HV3 := Lib.hid (HV2.out.step (kr_drewN rb w2 nq))
      clear c0 c1 HR2 HV2 hidx HVE0
      generalize w2.drewN nq = w3 at HR3 HV3 ⊢
      obtain ⟨c0, c1, _, _⟩ := HR3.out.cells
      by_cases h110 : c = 110
      · have hc := h110
        clear h110
        have hc' : ((c.toNat : Int) == 110) = true := b8t hc
        have HAT : Hid (val d (s.drop i) = match (if [110, 117, 108, 108].isPrefixOf (s.drop q) then some (.ok (plainH 0) .nil (s.drop (q + 4))) else some (.err 4 (s.drop q)) : Option Out) with
          | some o => o
          | none => if c = 91 then listO d (s.drop (q + 1)) else objO d (s.drop (q + 1))) := Lib.hid (by
          have e : s.drop (q + 4) = (s.drop q).drop 4 := by rw [List.drop_drop]
          rw [HVE.out, e, HDG.out, hc, atom_n])
        clear hc
        have HRW := HR3
        have HVW := HV3
        have HWO := Lib.hid (wordR_any rb s q wh [110, 117, 108, 108] w3 HRW.out hs hq2 (by decide))
        go_wp2_with fail
        refine HWO.out.mono ?_
        rintro x w4 ⟨rfl, hk4, hx4⟩
        have HV4 := Lib.hid (HVW.out.step hk4)
        have HAG : Hid (AgV rb s w4 (val d (s.drop i)) (plainH 0) .nil) := Lib.hid (by
          rcases hx4 with ⟨hp, wh', hr4⟩ | ⟨hp, hr4⟩
          · have hle : q + 4 ≤ s.length := by
              have := isPrefixOf_len hp
              rw [List.length_drop] at this
              simp at this
              omega
            exact .inl ⟨q + 4, wh', hle, by rw [HAT.out, if_pos hp], hr4⟩
          · exact .inr ⟨4, s.drop q, q, by decide, hq2, by rw [HAT.out, if_neg (by rw [hp]; decide)], by rw [len_drop hq2]; exact hr4⟩)
        clear hk4 hx4 HWO
        have y0 := HV4.out.b1.cell 0
        have y1 := HV4.out.b1.cell 1
        have y2 := HV4.out.b1.cell 2
        have y3 := HV4.out.b1.cell 3
        have y4 := HV4.out.b1.cell 4
        go_wp2_with (refine wpList_store_row rfl 25 _ _ rfl _ _ rfl rfl 25 _ HV4.out.b0 (by kernel_rfl) rfl (by simp [Value.oneCell']) ?_)
        exact bodyPost_ret (results_row rfl _ _ w.heap.size 25 _ (0, 0) _ rfl (setRow_heap _ _ _ _ _ _ HV4.out.b0) Tryz.underlying25 rfl (by kernel_rfl)) rfl (vl_atom HV4.out rfl rfl HAG.out)
      have n110 : ((c.toNat : Int) == 110) = false := b8f h110
      by_cases h102 : c = 102
      · have hc := h102
        clear h102 h110
        have hc' : ((c.toNat : Int) == 102) = true := b8t hc
        have HAT : Hid (val d (s.drop i) = match (if [102, 97, 108, 115, 101].isPrefixOf (s.drop q) then some (.ok (plainH 1) .nil (s.drop (q + 5))) else some (.err 4 (s.drop q)) : Option Out) with
          | some o => o
          | none => if c = 91 then listO d (s.drop (q + 1)) else objO d (s.drop (q + 1))) := Lib.hid (by
          have e : s.drop (q + 5) = (s.drop q).drop 5 := by rw [List.drop_drop]
          rw [HVE.out, e, HDG.out, hc, atom_f])
        clear hc
        have f0 := HV3.out.b1.frozen 0
        have z0 := HV3.out.b1.cell 0
        go_upto_region 15 with fail
        have HRW := Lib.hid (HV3.out.far HR3.out 0 (.int .i64 1))
        have HVW := Lib.hid (HV3.out.set 0 (.int .i64 1))
        clear f0 z0 HV3 HR3 c0 c1
        generalize w3.setCell ⟨w.heap.size + 1, 0, none⟩ (.int .i64 1) = w3 at HRW HVW ⊢
        have HWO := Lib.hid (wordR_any rb s q wh [102, 97, 108, 115, 101] w3 HRW.out hs hq2 (by decide))
        go_wp2_with fail
        refine HWO.out.mono ?_
        rintro x w4 ⟨rfl, hk4, hx4⟩
        have HV4 := Lib.hid (HVW.out.step hk4)
        have HAG : Hid (AgV rb s w4 (val d (s.drop i)) (plainH 1) .nil) := Lib.hid (by
          rcases hx4 with ⟨hp, wh', hr4⟩ | ⟨hp, hr4⟩
          · have hle : q + 5 ≤ s.length := by
              have := isPrefixOf_len hp
              rw [List.length_drop] at this
              simp at this
              omega
            exact .inl ⟨q + 5, wh', hle, by rw [HAT.out, if_pos hp], hr4⟩
          · exact .inr ⟨4, s.drop q, q, by decide, hq2, by rw [HAT.out, if_neg (by rw [hp]; decide)], by rw [len_drop hq2]; exact hr4⟩)
        clear hk4 hx4 HWO
        have y0 := HV4.out.b1.cell 0
        have y1 := HV4.out.b1.cell 1
        have y2 := HV4.out.b1.cell 2
        have y3 := HV4.out.b1.cell 3
        have y4 := HV4.out.b1.cell 4
        go_wp2_with (refine wpList_store_row rfl 25 _ _ rfl _ _ rfl rfl 25 _ HV4.out.b0 (by kernel_rfl) rfl (by simp [Value.oneCell']) ?_)
        exact bodyPost_ret (results_row rfl _ _ w.heap.size 25 _ (0, 0) _ rfl (setRow_heap _ _ _ _ _ _ HV4.out.b0) Tryz.underlying25 rfl (by kernel_rfl)) rfl (vl_atom HV4.out rfl rfl HAG.out)
      have n102 : ((c.toNat : Int) == 102) = false := b8f h102
      by_cases h116 : c = 116
      · have hc := h116
        clear h102 h110 h116
        have hc' : ((c.toNat : Int) == 116) = true := b8t hc
        have HAT : Hid (val d (s.drop i) = match (if [116, 114, 117, 101].isPrefixOf (s.drop q) then some (.ok (plainH 2) .nil (s.drop (q + 4))) else some (.err 4 (s.drop q)) : Option Out) with
          | some o => o
          | none => if c = 91 then listO d (s.drop (q + 1)) else objO d (s.drop (q + 1))) := Lib.hid (by
          have e : s.drop (q + 4) = (s.drop q).drop 4 := by rw [List.drop_drop]
          rw [HVE.out, e, HDG.out, hc, atom_t])
        clear hc
        have f0 := HV3.out.b1.frozen 0
        have z0 := HV3.out.b1.cell 0
        go_upto_region 18 with fail
        have HRW := Lib.hid (HV3.out.far HR3.out 0 (.int .i64 2))
        have HVW := Lib.hid (HV3.out.set 0 (.int .i64 2))
        clear f0 z0 HV3 HR3 c0 c1
        generalize w3.setCell ⟨w.heap.size + 1, 0, none⟩ (.int .i64 2) = w3 at HRW HVW ⊢
        have HWO := Lib.hid (wordR_any rb s q wh [116, 114, 117, 101] w3 HRW.out hs hq2 (by decide))
        go_wp2_with fail
        refine HWO.out.mono ?_
        rintro x w4 ⟨rfl, hk4, hx4⟩
        have HV4 := Lib.hid (HVW.out.step hk4)
        have HAG : Hid (AgV rb s w4 (val d (s.drop i)) (plainH 2) .nil) := Lib.hid (by
          rcases hx4 with ⟨hp, wh', hr4⟩ | ⟨hp, hr4⟩
          · have hle : q + 4 ≤ s.length := by
              have := isPrefixOf_len hp
              rw [List.length_drop] at this
              simp at this
              omega
            exact .inl ⟨q + 4, wh', hle, by rw [HAT.out, if_pos hp], hr4⟩
          · exact .inr ⟨4, s.drop q, q, by decide, hq2, by rw [HAT.out, if_neg (by rw [hp]; decide)], by rw [len_drop hq2]; exact hr4⟩)
        clear hk4 hx4 HWO
        have y0 := HV4.out.b1.cell 0
        have y1 := HV4.out.b1.cell 1
        have y2 := HV4.out.b1.cell 2
        have y3 := HV4.out.b1.cell 3
        have y4 := HV4.out.b1.cell 4
        go_wp2_with (refine wpList_store_row rfl 25 _ _ rfl _ _ rfl rfl 25 _ HV4.out.b0 (by kernel_rfl) rfl (by simp [Value.oneCell']) ?_)
        exact bodyPost_ret (results_row rfl _ _ w.heap.size 25 _ (0, 0) _ rfl (setRow_heap _ _ _ _ _ _ HV4.out.b0) Tryz.underlying25 rfl (by kernel_rfl)) rfl (vl_atom HV4.out rfl rfl HAG.out)
      have n116 : ((c.toNat : Int) == 116) = false := b8f h116
      by_cases h45 : c = 45
      · have n45 : ((c.toNat : Int) == 45) = true := b8t h45
        have hnum : c = 45 ∨ (48 ≤ c.toNat ∧ c.toNat ≤ 57) := .inl h45
        have hn34 : c ≠ 34 := by rw [h45]; decide
        have hn91 : ¬ (c = 91 ∨ c = 123) := by rw [h45]; decide
        clear h45
        have HAT : Hid (val d (s.drop i) = numOut (s.drop q)) := Lib.hid (by
          rw [HVE.out, HDG.out, atom_else h110 h102 h116, if_neg hn34, if_neg hn91, if_pos hnum])
        have HNC : Hid (numc (s.getD q 0) = true) := Lib.hid (by
          rw [← HCQ.out]
          unfold numc
          rcases hnum with e | e
          · rw [e]; rfl
          · rw [decide_eq_true e]; rfl)
        clear h110 h102 h116 hn34 hn91 hnum
        have f0 := HV3.out.b1.frozen 0
        have z0 := HV3.out.b1.cell 0
        go_upto_region 21 with fail
        have HR5 := Lib.hid (HV3.out.far HR3.out 0 (.int .i64 3))
        have HV5 := Lib.hid (HV3.out.set 0 (.int .i64 3))
        clear f0 z0 HV3 HR3
        generalize w3.setCell ⟨w.heap.size + 1, 0, none⟩ (.int .i64 3) = w5 at HR5 HV5 ⊢
        clear c0 c1
        have HNM := Lib.hid (numberR_any rb s q wh w5 HR5.out hs hlt HNC.out)
        have z1 := HV5.out.b1.cell 1
        have g1 := HV5.out.b1.frozen 1
        go_wp2_with fail
        refine HNM.out.mono ?_
        rintro x w6 ⟨z, rfl, hz, hk6, hx6⟩
        have HV6 := Lib.hid (HV5.out.step hk6)
        have HX6 := Lib.hid hx6
        clear hk6 hx6 HNM z1 g1 HV5 HR5
        have z1 := HV6.out.b1.cell 1
        have g1 := HV6.out.b1.frozen 1
        go_upto_region 34 with fail
        have HV7 := Lib.hid (HV6.out.set 1 (.int .i64 z))
        have HAG : Hid (AgV rb s (w6.setCell ⟨w.heap.size + 1, 1, none⟩ (.int .i64 z)) (val d (s.drop i)) ⟨3, z, [], []⟩ .nil) := Lib.hid (by
          rcases HX6.out with ⟨hn, wh', hr6⟩ | ⟨hn, j', hj', hr6⟩
          · have hle : q + ((s.drop q).takeWhile numc).length ≤ s.length := by
              have := (List.takeWhile_prefix (l := s.drop q) numc).length_le
              rw [List.length_drop] at this
              omega
            exact .inl ⟨_, wh', hle, by rw [HAT.out]; unfold numOut; rw [hn]; simp only; rw [List.drop_drop], HV6.out.far hr6 _ _⟩
          · exact .inr ⟨4, s.drop q, j', by decide, hj', by rw [HAT.out]; unfold numOut; rw [hn], by rw [len_drop hq2]; exact HV6.out.far hr6 _ _⟩)
        clear z1 g1 HV6 HX6
        generalize w6.setCell ⟨w.heap.size + 1, 1, none⟩ (.int .i64 z) = w7 at HV7 HAG ⊢
        have y0 := HV7.out.b1.cell 0
        have y1 := HV7.out.b1.cell 1
        have y2 := HV7.out.b1.cell 2
        have y3 := HV7.out.b1.cell 3
        have y4 := HV7.out.b1.cell 4
        go_wp2_with (refine wpList_store_row rfl 25 _ _ rfl _ _ rfl rfl 25 _ HV7.out.b0 (by kernel_rfl) rfl (by simp [Value.oneCell']) ?_)
        exact bodyPost_ret (results_row rfl _ _ w.heap.size 25 _ (0, 0) _ rfl (setRow_heap _ _ _ _ _ _ HV7.out.b0) Tryz.underlying25 rfl (by kernel_rfl)) rfl (vl_atom (h := ⟨3, z, [], []⟩) HV7.out rfl rfl HAG.out)
      have n45 : ((c.toNat : Int) == 45) = false := b8f h45
      by_cases h48 : 48 ≤ c.toNat ∧ c.toNat ≤ 57
      · have l2 : ((48 : Int) ≤ (c.toNat : Int)) = True := eq_true (by omega)
        have l3 : ((c.toNat : Int) ≤ 57) = True := eq_true (by omega)
        have hnum : c = 45 ∨ (48 ≤ c.toNat ∧ c.toNat ≤ 57) := .inr h48
        have hn34 : c ≠ 34 := by rintro rfl; revert h48; decide
        have hn91 : ¬ (c = 91 ∨ c = 123) := by rintro (rfl | rfl) <;> (revert h48; decide)
        clear h45 h48
        have HAT : Hid (val d (s.drop i) = numOut (s.drop q)) := Lib.hid (by
          rw [HVE.out, HDG.out, atom_else h110 h102 h116, if_neg hn34, if_neg hn91, if_pos hnum])
        have HNC : Hid (numc (s.getD q 0) = true) := Lib.hid (by
          rw [← HCQ.out]
          unfold numc
          rcases hnum with e | e
          · rw [e]; rfl
          · rw [decide_eq_true e]; rfl)
        clear h110 h102 h116 hn34 hn91 hnum
        have f0 := HV3.out.b1.frozen 0
        have z0 := HV3.out.b1.cell 0
        go_upto_region 21 with fail
        have HR5 := Lib.hid (HV3.out.far HR3.out 0 (.int .i64 3))
        have HV5 := Lib.hid (HV3.out.set 0 (.int .i64 3))
        clear f0 z0 HV3 HR3
        generalize w3.setCell ⟨w.heap.size + 1, 0, none⟩ (.int .i64 3) = w5 at HR5 HV5 ⊢
        clear c0 c1
        have HNM := Lib.hid (numberR_any rb s q wh w5 HR5.out hs hlt HNC.out)
        have z1 := HV5.out.b1.cell 1
        have g1 := HV5.out.b1.frozen 1
        go_wp2_with fail
        refine HNM.out.mono ?_
        rintro x w6 ⟨z, rfl, hz, hk6, hx6⟩
        have HV6 := Lib.hid (HV5.out.step hk6)
        have HX6 := Lib.hid hx6
        clear hk6 hx6 HNM z1 g1 HV5 HR5
        have z1 := HV6.out.b1.cell 1
        have g1 := HV6.out.b1.frozen 1
        go_upto_region 34 with fail
        have HV7 := Lib.hid (HV6.out.set 1 (.int .i64 z))
        have HAG : Hid (AgV rb s (w6.setCell ⟨w.heap.size + 1, 1, none⟩ (.int .i64 z)) (val d (s.drop i)) ⟨3, z, [], []⟩ .nil) := Lib.hid (by
          rcases HX6.out with ⟨hn, wh', hr6⟩ | ⟨hn, j', hj', hr6⟩
          · have hle : q + ((s.drop q).takeWhile numc).length ≤ s.length := by
              have := (List.takeWhile_prefix (l := s.drop q) numc).length_le
              rw [List.length_drop] at this
              omega
            exact .inl ⟨_, wh', hle, by rw [HAT.out]; unfold numOut; rw [hn]; simp only; rw [List.drop_drop], HV6.out.far hr6 _ _⟩
          · exact .inr ⟨4, s.drop q, j', by decide, hj', by rw [HAT.out]; unfold numOut; rw [hn], by rw [len_drop hq2]; exact HV6.out.far hr6 _ _⟩)
        clear z1 g1 HV6 HX6
        generalize w6.setCell ⟨w.heap.size + 1, 1, none⟩ (.int .i64 z) = w7 at HV7 HAG ⊢
        have y0 := HV7.out.b1.cell 0
        have y1 := HV7.out.b1.cell 1
        have y2 := HV7.out.b1.cell 2
        have y3 := HV7.out.b1.cell 3
        have y4 := HV7.out.b1.cell 4
        go_wp2_with (refine wpList_store_row rfl 25 _ _ rfl _ _ rfl rfl 25 _ HV7.out.b0 (by kernel_rfl) rfl (by simp [Value.oneCell']) ?_)
        exact bodyPost_ret (results_row rfl _ _ w.heap.size 25 _ (0, 0) _ rfl (setRow_heap _ _ _ _ _ _ HV7.out.b0) Tryz.underlying25 rfl (by kernel_rfl)) rfl (vl_atom (h := ⟨3, z, [], []⟩) HV7.out rfl rfl HAG.out)
      have hn45 : ¬ (c = 45 ∨ (48 ≤ c.toNat ∧ c.toNat ≤ 57)) := fun e => e.elim h45 h48
      by_cases h34 : c = 34
      · have n34 : ((c.toNat : Int) == 34) = true := b8t h34
        have l2 : ((48 : Int) ≤ (c.toNat : Int)) = False := eq_false (by rw [h34]; decide)
        clear h45 h48
        have HAT : Hid (val d (s.drop i) = (txt (s.drop (q + 1))).out) := Lib.hid (by
          rw [HVE.out, HDG.out, atom_else h110 h102 h116, if_pos h34])
        clear h110 h102 h116 h34 hn45
        have f1 := Blk.frozen HR3.out 1
        go_upto_region 24 with fail
        have HR4 : Hid (Rb (w3.setCell ⟨rb, 1, none⟩ (.int .i64 ((q : Int) + 1))) rb s (q + 1) 0 wh) := Lib.hid (by have := HR3.out.at_ (q + 1); push_cast at this; exact this)
        have HV4 := Lib.hid (HV3.out.step (kr_set (kr_refl rb w3) (o := 1) (.int .i64 ((q : Int) + 1))))
        clear c0 c1 f1 HR3 HV3
        generalize w3.setCell ⟨rb, 1, none⟩ (.int .i64 ((q : Int) + 1)) = w4 at HR4 HV4 ⊢
        have f0 := HV4.out.b1.frozen 0
        have z0 := HV4.out.b1.cell 0
        go_upto_region 25 with fail
        have HR5 := Lib.hid (HV4.out.far HR4.out 0 (.int .i64 4))
        have HV5 := Lib.hid (HV4.out.set 0 (.int .i64 4))
        clear f0 z0 HV4 HR4
        generalize w4.setCell ⟨w.heap.size + 1, 0, none⟩ (.int .i64 4) = w5 at HR5 HV5 ⊢
        have HTX := Lib.hid (textR_any rb s (q + 1) wh w5 HR5.out hs (by omega))
        go_wp2_with fail
        refine HTX.out.mono ?_
        rintro x w6 ⟨t, rfl, hk6, hx6⟩
        have HV6 := Lib.hid (HV5.out.step hk6)
        have HX6 := Lib.hid hx6
        clear hk6 hx6 HTX HV5 HR5
        have z2 := HV6.out.b1.cell 2
        have g2 := HV6.out.b1.frozen 2
        go_upto_region 34 with fail
        have HV7 := Lib.hid (HV6.out.set 2 (.string ⟨t.toArray⟩))
        have HAG : Hid (AgV rb s (w6.setCell ⟨w.heap.size + 1, 2, none⟩ (.string ⟨t.toArray⟩)) (val d (s.drop i)) ⟨4, 0, t, []⟩ .nil) := Lib.hid (by
          rcases HX6.out with ⟨j', wh', hj', hn, hr6⟩ | ⟨no, r, j', ht0, hno, hj', hn, hr6⟩
          · exact .inl ⟨j', wh', hj', by rw [HAT.out, hn]; rfl, HV6.out.far hr6 _ _⟩
          · exact .inr ⟨no, r, j', hno, hj', by rw [HAT.out, hn]; rfl, HV6.out.far hr6 _ _⟩)
        clear z2 g2 HV6 HX6
        generalize w6.setCell ⟨w.heap.size + 1, 2, none⟩ (.string ⟨t.toArray⟩) = w7 at HV7 HAG ⊢
        have y0 := HV7.out.b1.cell 0
        have y1 := HV7.out.b1.cell 1
        have y2 := HV7.out.b1.cell 2
        have y3 := HV7.out.b1.cell 3
        have y4 := HV7.out.b1.cell 4
        go_wp2_with (refine wpList_store_row rfl 25 _ _ rfl _ _ rfl rfl 25 _ HV7.out.b0 (by kernel_rfl) rfl (by simp [Value.oneCell']) ?_)
        exact bodyPost_ret (results_row rfl _ _ w.heap.size 25 _ (0, 0) _ rfl (setRow_heap _ _ _ _ _ _ HV7.out.b0) Tryz.underlying25 rfl (by kernel_rfl)) rfl (vl_atom (h := ⟨4, 0, t, []⟩) HV7.out rfl rfl HAG.out)
      have n34 : ((c.toNat : Int) == 34) = false := b8f h34
      by_cases h91 : c = 91
      · have n91 : ((c.toNat : Int) == 91) = true := b8t h91
        have l2 : ((48 : Int) ≤ (c.toNat : Int)) = True := eq_true (by rw [h91]; decide)
        have l3 : ((c.toNat : Int) ≤ 57) = False := eq_false (by rw [h91]; decide)
        clear h45 h48
        have HAT : Hid (val d (s.drop i) = listO d (s.drop (q + 1))) := Lib.hid (by
          rw [HVE.out, HDG.out, atom_else h110 h102 h116, if_neg h34, if_pos (.inl h91)]
          simp only
          rw [if_pos h91])
        clear h110 h102 h116 h34 hn45 h91
        have f1 := Blk.frozen HR3.out 1
        go_upto_region 28 with fail
        have HR4 : Hid (Rb (w3.setCell ⟨rb, 1, none⟩ (.int .i64 ((q : Int) + 1))) rb s (q + 1) 0 wh) := Lib.hid (by have := HR3.out.at_ (q + 1); push_cast at this; exact this)
        have HV4 := Lib.hid (HV3.out.step (kr_set (kr_refl rb w3) (o := 1) (.int .i64 ((q : Int) + 1))))
        clear c0 c1 f1 HR3 HV3
        generalize w3.setCell ⟨rb, 1, none⟩ (.int .i64 ((q : Int) + 1)) = w4 at HR4 HV4 ⊢
        have f0 := HV4.out.b1.frozen 0
        have z0 := HV4.out.b1.cell 0
        go_upto_region 29 with fail
        have HR5 := Lib.hid (HV4.out.far HR4.out 0 (.int .i64 5))
        have HV5 := Lib.hid (HV4.out.set 0 (.int .i64 5))
        clear f0 z0 HV4 HR4
        generalize w4.setCell ⟨w.heap.size + 1, 0, none⟩ (.int .i64 5) = w5 at HR5 HV5 ⊢
        have HIC := Lib.hid (HI.out (s.length - (q + 1)) (by have := HN.out; omega) (q + 1) d wh w5 (by omega) (Nat.le_refl _) (by omega) HR5.out)
        go_wp2_with fail
        refine HIC.out.mono ?_
        rintro x w6 ⟨v6, f, rfl, hfl, htl, hk6, hag⟩
        have HV6 := Lib.hid (HV5.out.step hk6)
        have HTL := Lib.hid htl
        have HG6 := Lib.hid hag
        have HS5 := Lib.hid HV5.out.size
        obtain ⟨A6, c6, rfl⟩ := htl.form
        clear hk6 hag htl HIC HV5 HR5
        have z3 := HV6.out.b1.cell 3
        have g3 := HV6.out.b1.frozen 3
        go_upto_region 34 with fail
        have HV7 := Lib.hid (HV6.out.set 3 (.slice A6 f.len c6))
        have HAG : Hid (AgV rb s (w6.setCell ⟨w.heap.size + 1, 3, none⟩ (.slice A6 f.len c6)) (val d (s.drop i)) (plainH 5) f) := Lib.hid (by
          rw [HAT.out]
          exact agV_at HG6.out (Below.heap_setCell _ _ _ rb (by have := HV6.out.rb; show rb ≠ w.heap.size + 1; omega)))
        have HTV : Hid (∃ S : Nat → Prop, TV encJ (w6.setCell ⟨w.heap.size + 1, 3, none⟩ (.slice A6 f.len c6)) S (plainH 5) f (jcells (plainH 5) (.slice A6 f.len c6) (.slice none (plainH 5).keys.length 0)) ∧ ∀ b, S b → w.heap.size + 1 ≤ b ∧ b < (w6.setCell ⟨w.heap.size + 1, 3, none⟩ (.slice A6 f.len c6)).heap.size) := Lib.hid (by
          obtain ⟨S, vs, ho, ht, hS⟩ := HTL.out
          obtain ⟨A7, c7, e7, hr⟩ := RdS.of_own ho
          cases e7
          have hs5 := HS5.out
          have hB : ∀ b, (S b ∨ (Value.slice A6 f.len c6).ownBlock = some b) → w.heap.size + 2 ≤ b ∧ b < w6.heap.size := fun b hb => by
            rcases hb with hb | hb
            · rcases hS b hb with h | h
              · exact ⟨by omega, h.2.1⟩
              · exact h.1.elim
            · have := own_lt ho hb; exact ⟨by omega, this.2⟩
          have htv : TV encJ w6 (fun b => S b ∨ (Value.slice A6 f.len c6).ownBlock = some b) (plainH 5) f (jcells (plainH 5) (.slice A6 f.len c6) (.slice none (plainH 5).keys.length 0)) :=
            ⟨A6, c6, none, 0, vs, rfl, by omega, ⟨by simp [plainH], fun e => by cases e⟩, hr.more fun b hb => .inr hb, ht.more fun b hb => .inl hb, RdS.none_⟩
          exact ⟨_, htv.kept fun p hp => World.cell?_setCell_other _ _ _ _ (fun e => by have h1 := (hB _ hp).1; rw [← e] at h1; have h2 : w.heap.size + 2 ≤ w.heap.size + 1 := h1; omega), fun b hb => ⟨by have := (hB b hb).1; omega, by have := (hB b hb).2; simpa using this⟩⟩)
        clear z3 g3 HV6 HG6 HTL
        generalize w6.setCell ⟨w.heap.size + 1, 3, none⟩ (.slice A6 f.len c6) = w7 at HV7 HAG HTV ⊢
        obtain ⟨S7, htv7, hS7⟩ := HTV.out
        have HT7 := Lib.hid htv7
        have HS7 := Lib.hid hS7
        clear htv7 hS7 HTV
        have y0 := HV7.out.b1.cell 0
        have y1 := HV7.out.b1.cell 1
        have y2 := HV7.out.b1.cell 2
        have y3 := HV7.out.b1.cell 3
        have y4 := HV7.out.b1.cell 4
        go_wp2_with (refine wpList_store_row rfl 25 _ _ rfl _ _ rfl rfl 25 _ HV7.out.b0 (by kernel_rfl) rfl (by simp [Value.oneCell']) ?_)
        exact bodyPost_ret (results_row rfl _ _ w.heap.size 25 _ (0, 0) _ rfl (setRow_heap _ _ _ _ _ _ HV7.out.b0) Tryz.underlying25 rfl (by kernel_rfl)) rfl (vl_end (h := plainH 5) (k := f) HV7.out rfl HT7.out HS7.out HAG.out)
      have n91 : ((c.toNat : Int) == 91) = false := b8f h91
      by_cases h123 : c = 123
      · have n123 : ((c.toNat : Int) == 123) = true := b8t h123
        have l2 : ((48 : Int) ≤ (c.toNat : Int)) = True := eq_true (by rw [h123]; decide)
        have l3 : ((c.toNat : Int) ≤ 57) = False := eq_false (by rw [h123]; decide)
        clear h45 h48
        have HAT : Hid (val d (s.drop i) = objO d (s.drop (q + 1))) := Lib.hid (by
          rw [HVE.out, HDG.out, atom_else h110 h102 h116, if_neg h34, if_pos (.inr h123)]
          simp only
          rw [if_neg h91])
        clear h110 h102 h116 h34 hn45 h91 h123
        have f1 := Blk.frozen HR3.out 1
        go_upto_region 32 with fail
        have HR4 : Hid (Rb (w3.setCell ⟨rb, 1, none⟩ (.int .i64 ((q : Int) + 1))) rb s (q + 1) 0 wh) := Lib.hid (by have := HR3.out.at_ (q + 1); push_cast at this; exact this)
        have HV4 := Lib.hid (HV3.out.step (kr_set (kr_refl rb w3) (o := 1) (.int .i64 ((q : Int) + 1))))
        clear c0 c1 f1 HR3 HV3
        generalize w3.setCell ⟨rb, 1, none⟩ (.int .i64 ((q : Int) + 1)) = w4 at HR4 HV4 ⊢
        have f0 := HV4.out.b1.frozen 0
        have z0 := HV4.out.b1.cell 0
        go_upto_region 33 with fail
        have HR5 := Lib.hid (HV4.out.far HR4.out 0 (.int .i64 6))
        have HV5 := Lib.hid (HV4.out.set 0 (.int .i64 6))
        clear f0 z0 HV4 HR4
        generalize w4.setCell ⟨w.heap.size + 1, 0, none⟩ (.int .i64 6) = w5 at HR5 HV5 ⊢
        have HMC := Lib.hid (HMM.out (s.length - (q + 1)) (by have := HN.out; omega) (q + 1) d wh w5 (by omega) (Nat.le_refl _) (by omega) HR5.out)
        have y0 := HV5.out.b1.cell 0
        have y1 := HV5.out.b1.cell 1
        have y2 := HV5.out.b1.cell 2
        have y3 := HV5.out.b1.cell 3
        have y4 := HV5.out.b1.cell 4
        go_wp2_with fail
        refine HMC.out.mono ?_
        rintro x w6 ⟨ks, f, A6, c6, A7, c7, rfl, htv, hk6, hag⟩
        have HV6 := Lib.hid (HV5.out.step hk6)
        have HS5 := Lib.hid HV5.out.size
        have HTV := Lib.hid htv
        have HG6 := Lib.hid hag
        clear htv hk6 hag HMC HV5 HR5 y0 y1 y2 y3 y4
        have HX : Hid (VlP rb s i d w (.returned (.agg #[.int .i64 6, .int .i64 0, .string ⟨#[]⟩, .slice A6 f.len c6, .slice A7 ks.length c7])) (w6.setRow w.heap.size #[.int .i64 6, .int .i64 0, .string ⟨#[]⟩, .slice A6 f.len c6, .slice A7 ks.length c7])) := Lib.hid (by
          have hrb := HV6.out.rb
          have hs5 := HS5.out
          refine ⟨hd6 ks, f, A6, c6, A7, c7, rfl, (HTV.out.kept fun p hp => cell_setRow_other _ _ _ _ (by have := hp.1; omega)).more fun b hb => ⟨by have := hb.1; omega, by rw [setRow_size]; exact hb.2⟩, ?_, ?_⟩
          · exact Kp.trans HV6.out.kr (Kp.of_below (below_setRow (Below.refl w.heap.size w6) (Nat.le_refl _) _))
          · rw [HAT.out]
            exact agV_at HG6.out (setRow_other _ _ _ _ (by omega)))
        go_wp2_with (refine wpList_store_row rfl 25 _ _ rfl _ _ rfl rfl 25 _ HV6.out.b0 (by kernel_rfl) rfl (by simp [Value.oneCell']) ?_)
        exact bodyPost_ret (results_row rfl _ _ w.heap.size 25 _ (0, 0) _ rfl (setRow_heap _ _ _ _ _ _ HV6.out.b0) Tryz.underlying25 rfl (by kernel_rfl)) rfl HX.out
      have n123 : ((c.toNat : Int) == 123) = false := b8f h123
      have HAT : Hid (val d (s.drop i) = .err 4 (s.drop q)) := Lib.hid (by
        rw [HVE.out, HDG.out, atom_else h110 h102 h116, if_neg h34, if_neg (fun e => e.elim h91 h123), if_neg hn45])
      rcases (by omega : c.toNat < 48 ∨ 57 < c.toNat) with h | h
      · have l2 : ((48 : Int) ≤ (c.toNat : Int)) = False := eq_false (by omega)
        clear h h45 h48 hn45 h34 h91 h123 h110 h102 h116
        have HF := Lib.hid (failR_any rb s q wh 4 q w3 HR3.out)
        go_wp2_with fail
        refine HF.out.mono ?_
        rintro x w9 ⟨rfl, hr9, hk9⟩
        have HV9 := Lib.hid (HV3.out.step hk9)
        have HAG : Hid (AgV rb s w9 (val d (s.drop i)) ⟨0, 0, [], []⟩ .nil) := Lib.hid (.inr ⟨4, s.drop q, q, by decide, hq2, HAT.out, by rw [len_drop hq2]; exact hr9⟩)
        clear hr9 hk9 HF
        have y0 := HV9.out.b1.cell 0
        have y1 := HV9.out.b1.cell 1
        have y2 := HV9.out.b1.cell 2
        have y3 := HV9.out.b1.cell 3
        have y4 := HV9.out.b1.cell 4
        go_wp2_with (refine wpList_store_row rfl 25 _ _ rfl _ _ rfl rfl 25 _ HV9.out.b0 (by kernel_rfl) rfl (by simp [Value.oneCell']) ?_)
        exact bodyPost_ret (results_row rfl _ _ w.heap.size 25 _ (0, 0) _ rfl (setRow_heap _ _ _ _ _ _ HV9.out.b0) Tryz.underlying25 rfl (by kernel_rfl)) rfl (vl_atom HV9.out rfl rfl HAG.out)
      · have l2 : ((48 : Int) ≤ (c.toNat : Int)) = True := eq_true (by omega)
        have l3 : ((c.toNat : Int) ≤ 57) = False := eq_false (by omega)
        clear h h45 h48 hn45 h34 h91 h123 h110 h102 h116
        have HF := Lib.hid (failR_any rb s q wh 4 q w3 HR3.out)
        go_wp2_with fail
        refine HF.out.mono ?_
        rintro x w9 ⟨rfl, hr9, hk9⟩
        have HV9 := Lib.hid (HV3.out.step hk9)
        have HAG : Hid (AgV rb s w9 (val d (s.drop i)) ⟨0, 0, [], []⟩ .nil) := Lib.hid (.inr ⟨4, s.drop q, q, by decide, hq2, HAT.out, by rw [len_drop hq2]; exact hr9⟩)
        clear hr9 hk9 HF
        have y0 := HV9.out.b1.cell 0
        have y1 := HV9.out.b1.cell 1
        have y2 := HV9.out.b1.cell 2
        have y3 := HV9.out.b1.cell 3
        have y4 := HV9.out.b1.cell 4
        go_wp2_with (refine wpList_store_row rfl 25 _ _ rfl _ _ rfl rfl 25 _ HV9.out.b0 (by kernel_rfl) rfl (by simp [Value.oneCell']) ?_)
        exact bodyPost_ret (results_row rfl _ _ w.heap.size 25 _ (0, 0) _ rfl (setRow_heap _ _ _ _ _ _ HV9.out.b0) Tryz.underlying25 rfl (by kernel_rfl)) rfl (vl_atom HV9.out rfl rfl HAG.out)
  · have HE := Lib.hid (endR_t rb s q 0 wh w1 HR1.out (by omega))
    have HVE : Hid (val d (s.drop i) = .err 2 []) := Lib.hid (by rw [val_eq, ← HDB.out, List.drop_eq_nil_of_le (by omega)])
    go_wp2_with fail
    refine HE.out.mono ?_
    rintro x wx ⟨rfl, n1, rfl⟩
    have HR2 : Hid (Rb (w1.drewN n1) rb s q 0 wh) := Lib.hid HR1.out
    have HV2 := Lib.hid (HV1.out.step (kr_drewN rb w1 n1))
    clear HR1 HV1 HE
    generalize w1.drewN n1 = w2 at HR2 HV2 ⊢
    obtain ⟨c0, c1, _, _⟩ := HR2.out.cells
    have HF := Lib.hid (failR_any rb s q wh 2 q w2 HR2.out)
    go_wp2_with fail
    refine HF.out.mono ?_
    rintro x w9 ⟨rfl, hr9, hk9⟩
    have HV9 := Lib.hid (HV2.out.step hk9)
    have HAG : Hid (AgV rb s w9 (val d (s.drop i)) ⟨0, 0, [], []⟩ .nil) := Lib.hid (.inr ⟨2, [], q, by decide, hq2, HVE.out, by rw [List.length_nil, show s.length - 0 = q by omega]; exact hr9⟩)
    clear hr9 hk9 HF
    have y0 := HV9.out.b1.cell 0
    have y1 := HV9.out.b1.cell 1
    have y2 := HV9.out.b1.cell 2
    have y3 := HV9.out.b1.cell 3
    have y4 := HV9.out.b1.cell 4
    go_wp2_with (refine wpList_store_row rfl 25 _ _ rfl _ _ rfl rfl 25 _ HV9.out.b0 (by kernel_rfl) rfl (by simp [Value.oneCell']) ?_)
    exact bodyPost_ret (results_row rfl _ _ w.heap.size 25 _ (0, 0) _ rfl (setRow_heap _ _ _ _ _ _ HV9.out.b0) Tryz.underlying25 rfl (by kernel_rfl)) rfl (vl_atom HV9.out rfl rfl HAG.out)
theorem values_any (rb : Nat) (s : List UInt8) (hs : s.length ≤ 1099511627776) (n : Nat) : VlC rb s n := by
  induction n using Nat.strongRecOn with
  | ind n ih => exact value_step rb s n (by omega) (fun m hm => items_step rb s m hs (ih m hm)) (fun m hm => members_step rb s m hs (ih m hm))
end Js
end Go.Proofs.YtlfeddgpfaigkaaGreatDoor
namespace Go.Proofs.YtlfeddgpfaigkaaGreatDoor
open Go.RowKit
theorem results_row_2tmp {P : Program} {fn : Func} {p u v : Tmp} {ty : TypeId} (h : fn.results = #[.cell p ty, .tmp u, .tmp v]) (tmps : Array Value) (w : World) (g : Nat) (t : TypeId) (cs : Array Value) (fr : Nat × Nat) (d : TypeDesc)
    (hp : tmps.getD p undef = .pointer (some ⟨g, 0, none⟩)) (hg : w.heap[g]? = some (.cells cs t fr))
    (hu : P.underlying ty = some d) (hd : (match d with | .struct _ | .array _ _ => true | _ => false) = true) (hi : (P.info? ty).map (·.size) = some cs.size) :
    (results fn tmps).run P w = .ok (.tuple #[.agg cs, tmps.getD u undef, tmps.getD v undef]) w := by
  have hl := run_loadVar_row (P := P) w g t ty cs fr d hg hu hd hi
  have hp' : tmps[p]?.getD undef = .pointer (some ⟨g, 0, none⟩) := by simpa using hp
  simp [results, h, hp', asAddr, hl]
namespace Js
/-- What Parse leaves. -/
def PsP (s : List UInt8) (w : World) (x : Ending) (w' : World) : Prop :=
  ∃ (h : Hd) (k : F) (A : Option Addr) (c : Nat) (A' : Option Addr) (c' no pl : Nat), x = .returned (.tuple #[.agg #[.int .i64 h.kind, .int .i64 h.num, .string ⟨h.text.toArray⟩, .slice A k.len c, .slice A' h.keys.length c'], .int .i64 (no : Nat), .int .i64 (pl : Nat)]) ∧ TV encJ w' (FrR w w') h k (jcells h (.slice A k.len c) (.slice A' h.keys.length c')) ∧ Below w.heap.size w w' ∧
    ((∃ r, parse s = .ok h k r ∧ no = 0 ∧ pl = 0) ∨ (h = ⟨0, 0, [], []⟩ ∧ k = .nil ∧ ∃ r, parse s = .err no r ∧ pl + r.length = s.length))
theorem ps_err {s : List UInt8} {w w' : World} {no pl : Nat} {r : List UInt8} (h : parse s = .err no r) (hp : pl + r.length = s.length) (hb : Below w.heap.size w w') : PsP s w (.returned (.tuple #[.agg #[.int .i64 0, .int .i64 0, .string ⟨#[]⟩, .slice none 0 0, .slice none 0 0], .int .i64 (no : Nat), .int .i64 (pl : Nat)])) w' :=
  ⟨⟨0, 0, [], []⟩, .nil, none, 0, none, 0, no, pl, rfl, (tv_atomR w' ⟨0, 0, [], []⟩ rfl).more fun _ h => h.elim, hb, .inr ⟨rfl, rfl, r, h, hp⟩⟩
set_option maxHeartbeats 6400000 in
set_option maxRecDepth 100000 in
theorem parseR_any (s : List UInt8) (hsl : s.length ≤ 9223372036854775807) (w : World) : Calls Tryz.prog 16 #[.string ⟨s.toArray⟩] w (PsP s w) := by
  obtain ⟨b0, hb0⟩ : ∃ b0, b0 = w.heap.size := ⟨_, rfl⟩
  obtain ⟨wz, hwz⟩ : ∃ wz, wz = w.alloc (.cells #[.int .i64 0, .int .i64 0, .string ⟨#[]⟩, .slice none 0 0, .slice none 0 0] 25) := ⟨_, rfl⟩
  have HBA : Hid (Blk wz b0 25 #[.int .i64 0, .int .i64 0, .string ⟨#[]⟩, .slice none 0 0, .slice none 0 0]) := Lib.hid (by rw [hwz, hb0]; exact Blk.new _ _ _)
  have HZ : Hid (Below w.heap.size w wz ∧ wz.heap.size = b0 + 1) := Lib.hid (by rw [hwz, hb0]; exact ⟨(Below.refl _ _).alloc (Nat.le_refl _) _, by simp⟩)
  have HB0 := Lib.hid hb0
  go_enter Tryz.func16, Tryz.ntmps16
  go_upto_region 1 with fail
  rw [← hwz, ← hb0]
  clear hwz hb0
  by_cases hm : 4194304 < s.length
  · have l1 : ((4194304 : Int) < (s.length : Int)) = True := eq_true (by omega)
    have HPE := Lib.hid (pa_many hm)
    clear hm hsl
    go_wp2_with (refine wpList_store_row rfl 25 _ _ rfl _ _ rfl rfl 25 _ HBA.out (by kernel_rfl) rfl (by simp [Value.oneCell']) ?_)
    exact bodyPost_ret (results_row_2tmp (p := 2) (u := 3) (v := 4) rfl _ _ b0 25 _ (0, 0) _ rfl (setRow_heap _ _ _ _ _ _ HBA.out) Tryz.underlying25 rfl (by kernel_rfl)) rfl (ps_err (pl := 0) HPE.out (by omega) (below_setRow HZ.out.1 (by have := HB0.out; omega) _))
  · have l1 : ((4194304 : Int) < (s.length : Int)) = False := eq_false (by omega)
    have HM := Lib.hid hm
    have hs : s.length ≤ 4194304 := by omega
    have HWR := Lib.hid (wrongR_any s wz (by omega))
    clear hm hsl
    go_wp2_with fail
    refine HWR.out.mono ?_
    rintro x w1 ⟨rfl, rfl⟩
    cases hw : wrong s with
    | some r =>
      have HPE := Lib.hid (pa_wrong HM.out hw)
      have hrl := wrong_len _ s r (Nat.le_refl _) hw
      obtain ⟨pl, hpl⟩ : ∃ pl : Nat, pl = s.length - r.length := ⟨_, rfl⟩
      have HPL : Hid (pl + r.length = s.length) := Lib.hid (by omega)
      have hat : wrongAt s = (pl : Int) := by unfold wrongAt; rw [hw]; show (s.length : Int) - r.length = _; omega
      rw [hat]
      have l2 : ((0 : Int) ≤ (pl : Int)) = True := eq_true (by omega)
      clear hat hpl hw hrl HWR
      go_wp2_with (refine wpList_store_row rfl 25 _ _ rfl _ _ rfl rfl 25 _ HBA.out (by kernel_rfl) rfl (by simp [Value.oneCell']) ?_)
      exact bodyPost_ret (results_row_2tmp (p := 2) (u := 3) (v := 4) rfl _ _ b0 25 _ (0, 0) _ rfl (setRow_heap _ _ _ _ _ _ HBA.out) Tryz.underlying25 rfl (by kernel_rfl)) rfl (ps_err HPE.out HPL.out (below_setRow HZ.out.1 (by have := HB0.out; omega) _))
    | none =>
      have hat : wrongAt s = -1 := by unfold wrongAt; rw [hw]
      rw [hat]
      have HW := Lib.hid hw
      clear hat hw HWR
      go_upto_region 7 with fail
      obtain ⟨w1, hw1⟩ : ∃ w1, w1 = wz.alloc (.cells #[.string ⟨s.toArray⟩, .int .i64 0, .int .i64 0, .int .i64 0] 109) := ⟨_, rfl⟩
      have hzs := HZ.out.2
      have HR1 : Hid (Rb w1 (b0 + 1) s 0 0 0) := Lib.hid (by rw [hw1, ← hzs]; exact Blk.new _ _ _)
      have hb1 : Below wz.heap.size wz w1 := by rw [hw1]; exact (Below.refl _ _).alloc (Nat.le_refl _) _
      have HB1 := Lib.hid (HBA.out.below hb1 HBA.out.lt)
      have HW1 : Hid (Below w.heap.size w w1 ∧ b0 + 2 ≤ w1.heap.size) := Lib.hid ⟨HZ.out.1.trans (hb1.mono HZ.out.1.size), by have := Blk.lt HR1.out; omega⟩
      rw [← hw1, hzs]
      clear hw1 hb1 hzs HZ HBA
      have HV := Lib.hid (values_any (b0 + 1) s (by omega) s.length 0 1 0 w1 (Nat.zero_le _) (by omega) (by decide) HR1.out)
      go_wp2_with fail
      refine HV.out.mono ?_
      rintro x w2 ⟨h, k, A, c, A', c', rfl, htv, hk, hag⟩
      have HB2 := Lib.hid (Kp.blk hk HB1.out HB1.out.lt (by omega))
      have HW2 : Hid (Below w.heap.size w w2 ∧ w1.heap.size ≤ w2.heap.size) := Lib.hid ⟨HW1.out.1.trans (Kp.below ((Kp.less hk HW1.out.1.size).mono (Nat.le_refl _) (fun k' h1 e => by have := HB0.out; omega))), kr_size hk⟩
      have HTV := Lib.hid htv
      have HAG := Lib.hid hag
      clear htv hk hag HV HR1 HB1
      go_upto_region 8 with (refine wpList_store_row rfl 25 _ _ rfl _ _ rfl rfl 25 _ (heap_alloc_new _ _) (by kernel_rfl) rfl rfl ?_)
      obtain ⟨w3, hw3⟩ : ∃ w3, w3 = w2.alloc (.cells #[.int .i64 h.kind, .int .i64 h.num, .string ⟨h.text.toArray⟩, .slice A k.len c, .slice A' h.keys.length c'] 25) := ⟨_, rfl⟩
      have hb3 : Below w2.heap.size w2 w3 := by rw [hw3]; exact (Below.refl _ _).alloc (Nat.le_refl _) _
      have HN3 : Hid (Blk w3 w2.heap.size 25 #[.int .i64 h.kind, .int .i64 h.num, .string ⟨h.text.toArray⟩, .slice A k.len c, .slice A' h.keys.length c']) := Lib.hid (by rw [hw3]; exact Blk.new _ _ _)
      have HB3 := Lib.hid (HB2.out.below hb3 HB2.out.lt)
      have HW3 : Hid (Below w.heap.size w w3 ∧ w2.heap.size ≤ w3.heap.size) := Lib.hid ⟨HW2.out.1.trans (hb3.mono HW2.out.1.size), hb3.size⟩
      have HTV3 := Lib.hid (HTV.out.kept (w' := w3) fun p hp => hb3.cell hp.2)
      have HAG3 := Lib.hid (agV_at HAG.out (hb3.block (b0 + 1) (by have := HW1.out; have := HW2.out; omega)))
      rw [← hw3]
      clear hw3 hb3 HB2 HTV HAG
      rcases HAG3.out with ⟨j, wh, hj, hval, hr3⟩ | ⟨no, r, j, hno, hj, hval, hr3⟩
      · have HVAL : Hid (val 1 s = .ok h k (s.drop j)) := Lib.hid hval
        have HR3 := Lib.hid hr3
        clear hval hr3 HAG3
        obtain ⟨_, _, c2, _⟩ := HR3.out.cells
        have HBL := Lib.hid (blanksR_any (b0 + 1) s j 0 wh w3 HR3.out hj (by omega))
        go_wp2_with fail
        refine HBL.out.mono ?_
        rintro x w4 ⟨rfl, hr4, hk4⟩
        obtain ⟨hq1, hq2⟩ := blA_ge hj
        have HDB : Hid (s.drop (blA s j) = bl (s.drop j)) := Lib.hid (drop_blA s j)
        generalize blA s j = q at hr4 hq1 hq2 HDB
        have HR4 := Lib.hid hr4
        have HB4 := Lib.hid (Kp.blk hk4 HB3.out HB3.out.lt (by omega))
        have HN4 := Lib.hid (Kp.blk hk4 HN3.out HN3.out.lt (by have := HW1.out; have := HW2.out; omega))
        have HTV4 := Lib.hid (HTV3.out.kept (w' := w4) fun p hp => Kp.cell hk4 (Nat.lt_of_lt_of_le hp.2 HW3.out.2) (by have := hp.1; have := HW1.out; omega))
        have HW4 : Hid (Below w.heap.size w w4 ∧ w2.heap.size ≤ w4.heap.size) := Lib.hid ⟨HW3.out.1.trans (Kp.below ((Kp.less hk4 HW3.out.1.size).mono (Nat.le_refl _) (fun k' h1 e => by have := HB0.out; omega))), Nat.le_trans HW3.out.2 (kr_size hk4)⟩
        clear hr4 hk4 HBL HR3 HB3 HN3 HTV3 HW3 c2
        by_cases hlt : q < s.length
        · have HE := Lib.hid (endR_f (b0 + 1) s q 0 wh w4 HR4.out hlt)
          have HDG := Lib.hid (drop_get hlt)
          have HPE : Hid (parse s = .err 3 (s.drop q)) := Lib.hid (by rw [HDG.out]; exact pa_long HM.out HW.out HVAL.out (by rw [← HDB.out, HDG.out]))
          have HPL : Hid (q + (s.drop q).length = s.length) := Lib.hid (by rw [List.length_drop]; omega)
          go_wp2_with fail
          refine HE.out.mono ?_
          rintro x wx ⟨rfl, n1, rfl⟩
          have HR5 : Hid (Rb (w4.drewN n1) (b0 + 1) s q 0 wh) := Lib.hid HR4.out
          have HB5 : Hid (Blk (w4.drewN n1) b0 25 #[.int .i64 0, .int .i64 0, .string ⟨#[]⟩, .slice none 0 0, .slice none 0 0]) := Lib.hid HB4.out
          have HW5 : Hid (Below w.heap.size w (w4.drewN n1)) := Lib.hid (below_drewN HW4.out.1 n1)
          clear HR4 HB4 HN4 HTV4 HW4 HE
          generalize w4.drewN n1 = w5 at HR5 HB5 HW5 ⊢
          obtain ⟨c0, c1, c2, c3⟩ := HR5.out.cells
          have HF := Lib.hid (failR_any (b0 + 1) s q wh 3 q w5 HR5.out)
          go_wp2_with fail
          refine HF.out.mono ?_
          rintro x wE ⟨rfl, hr6, hk6⟩
          have HBE := Lib.hid (Kp.blk hk6 HB5.out HB5.out.lt (by omega))
          have HWE : Hid (Below w.heap.size w wE) := Lib.hid (HW5.out.trans (Kp.below ((Kp.less hk6 HW5.out.size).mono (Nat.le_refl _) (fun k' h1 e => by have := HB0.out; omega))))
          clear c0 c1 c2 c3 HF hk6 HR5 HB5 HW5
          obtain ⟨_, _, c2, c3⟩ := hr6.cells
          clear hr6
          go_upto_region 13 with fail
          refine wp_region_held_drew (S := (fun wy => wy.cell? ⟨b0 + 1, 2, none⟩ = some (.int .i64 (3 : Nat)) ∧ wy.cell? ⟨b0 + 1, 3, none⟩ = some (.int .i64 (q : Nat)))) (by kernel_rfl) ⟨c2, c3⟩ (fun hHeld => ?_)
          refine tk 0 (h := ?_)
          try simp only [Act.put, List.setIfInBounds_toArray, List.set_cons_zero, List.set_cons_succ]
          refine tk 1 (h := ?_)
          try simp only [Act.put, List.setIfInBounds_toArray, List.set_cons_zero, List.set_cons_succ]
          refine tk 2 (h := ?_)
          try simp only [Act.put, List.setIfInBounds_toArray, List.set_cons_zero, List.set_cons_succ]
          refine tk 3 (h := ?_)
          try simp only [Act.put, List.setIfInBounds_toArray, List.set_cons_zero, List.set_cons_succ]
          refine tk 4 (h := ?_)
          try simp only [Act.put, List.setIfInBounds_toArray, List.set_cons_zero, List.set_cons_succ]
          refine tk 5 (h := ?_)
          try simp only [Act.put, List.setIfInBounds_toArray, List.set_cons_zero, List.set_cons_succ]
          refine tk 6 (h := ?_)
          try simp only [Act.put, List.setIfInBounds_toArray, List.set_cons_zero, List.set_cons_succ]
          refine tk 7 (h := ?_)
          try simp only [Act.put, List.setIfInBounds_toArray, List.set_cons_zero, List.set_cons_succ]
          refine tk 8 (h := ?_)
          try simp only [Act.put, List.setIfInBounds_toArray, List.set_cons_zero, List.set_cons_succ]
          refine wpAnyH_ready (rs := [9]) (by kernel_rfl) (by simp) ?_
          refine rdy (fun K hK => ?_) AllReadyH.nil
          rw [if_pos (by rfl)]
          refine wp_store_row 25 _ _ rfl b0 #[.int .i64 0, .int .i64 0, .string ⟨#[]⟩, .slice none 0 0, .slice none 0 0] rfl rfl 25 #[.int .i64 0, .int .i64 0, .string ⟨#[]⟩, .slice none 0 0, .slice none 0 0] HBE.out (by kernel_rfl) rfl (by simp [Value.oneCell']) ?_
          have HS13 : Hid ((wE.drew.setRow b0 #[.int .i64 0, .int .i64 0, .string ⟨#[]⟩, .slice none 0 0, .slice none 0 0]).cell? ⟨b0 + 1, 2, none⟩ = some (.int .i64 (3 : Nat)) ∧ (wE.drew.setRow b0 #[.int .i64 0, .int .i64 0, .string ⟨#[]⟩, .slice none 0 0, .slice none 0 0]).cell? ⟨b0 + 1, 3, none⟩ = some (.int .i64 (q : Nat))) := Lib.hid ⟨(cell_setRow_other _ _ _ _ (by show b0 + 1 ≠ b0; omega)).trans c2, (cell_setRow_other _ _ _ _ (by show b0 + 1 ≠ b0; omega)).trans c3⟩
          refine hK.out _ _ HS13.out (fun _ => ?_)
          clear hK
          try simp only [Act.put]
          refine tk 10 (h := ?_)
          try simp only [Act.put, List.setIfInBounds_toArray, List.set_cons_zero, List.set_cons_succ]
          refine tk 11 (h := ?_)
          try simp only [Act.put, List.setIfInBounds_toArray, List.set_cons_zero, List.set_cons_succ]
          refine wpAnyH_done (by kernel_rfl) ?_ _
          go_wp2_with fail
          exact bodyPost_ret (results_row_2tmp (p := 2) (u := 3) (v := 4) rfl _ _ b0 25 _ (0, 0) _ rfl (setRow_heap _ _ _ _ _ _ HBE.out) Tryz.underlying25 rfl (by kernel_rfl)) rfl (ps_err HPE.out HPL.out (below_setRow (Below.drew HWE.out) (by have := HB0.out; omega) _))
        · have HE := Lib.hid (endR_t (b0 + 1) s q 0 wh w4 HR4.out (by omega))
          have HPO : Hid (parse s = .ok h k []) := Lib.hid (by unfold parse; rw [if_neg HM.out, HW.out]; simp only; rw [HVAL.out]; simp only; rw [← HDB.out, List.drop_eq_nil_of_le (by omega)])
          go_wp2_with fail
          refine HE.out.mono ?_
          rintro x wx ⟨rfl, n1, rfl⟩
          have HR5 : Hid (Rb (w4.drewN n1) (b0 + 1) s q 0 wh) := Lib.hid HR4.out
          have HB5 : Hid (Blk (w4.drewN n1) b0 25 #[.int .i64 0, .int .i64 0, .string ⟨#[]⟩, .slice none 0 0, .slice none 0 0]) := Lib.hid HB4.out
          have HN5 : Hid (Blk (w4.drewN n1) w2.heap.size 25 #[.int .i64 h.kind, .int .i64 h.num, .string ⟨h.text.toArray⟩, .slice A k.len c, .slice A' h.keys.length c']) := Lib.hid HN4.out
          have HTV5 : Hid (TV encJ (w4.drewN n1) (FrR w1 w2) h k (jcells h (.slice A k.len c) (.slice A' h.keys.length c'))) := Lib.hid (HTV4.out.kept fun p _ => rfl)
          have HW5 : Hid (Below w.heap.size w (w4.drewN n1) ∧ w2.heap.size ≤ (w4.drewN n1).heap.size) := Lib.hid ⟨below_drewN HW4.out.1 n1, HW4.out.2⟩
          clear HR4 HB4 HN4 HTV4 HW4 HE
          generalize w4.drewN n1 = w5 at HR5 HB5 HN5 HTV5 HW5 ⊢
          obtain ⟨_, _, c2, _⟩ := HR5.out.cells
          have y0 := HN5.out.cell 0
          have y1 := HN5.out.cell 1
          have y2 := HN5.out.cell 2
          have y3 := HN5.out.cell 3
          have y4 := HN5.out.cell 4
          have HX : Hid (PsP s w (.returned (.tuple #[.agg #[.int .i64 h.kind, .int .i64 h.num, .string ⟨h.text.toArray⟩, .slice A k.len c, .slice A' h.keys.length c'], .int .i64 (0 : Nat), .int .i64 (0 : Nat)])) (w5.setRow b0 #[.int .i64 h.kind, .int .i64 h.num, .string ⟨h.text.toArray⟩, .slice A k.len c, .slice A' h.keys.length c'])) := Lib.hid (by
            have hb0 := HB0.out
            have hw1 := HW1.out
            have hw5 := HW5.out
            have hw2 := HW2.out
            exact ⟨h, k, A, c, A', c', 0, 0, rfl, (HTV5.out.kept fun p hp => cell_setRow_other _ _ _ _ (by have := hp.1; omega)).more fun b hb => ⟨by have := hb.1; omega, by rw [setRow_size]; have := hb.2; omega⟩, below_setRow hw5.1 (by omega) _, .inl ⟨[], HPO.out, rfl, rfl⟩⟩)
          go_wp2_with (refine wpList_store_row rfl 25 _ _ rfl _ _ rfl rfl 25 _ HB5.out (by kernel_rfl) rfl (by simp [Value.oneCell']) ?_)
          exact bodyPost_ret (results_row_2tmp (p := 2) (u := 3) (v := 4) rfl _ _ b0 25 _ (0, 0) _ rfl (setRow_heap _ _ _ _ _ _ HB5.out) Tryz.underlying25 rfl (by kernel_rfl)) rfl HX.out
      · have HPE := Lib.hid (pa_err HM.out HW.out hval)
        obtain ⟨pl, hpl⟩ : ∃ pl : Nat, pl = s.length - r.length := ⟨_, rfl⟩
        have HPL : Hid (pl + r.length = s.length) := Lib.hid (by have := (rd_err (2 * s.length + 1) .val 1 s r no (Nat.le_refl _) hval).2; omega)
        rw [← hpl] at hr3
        have e0 : ((no : Int) == 0) = false := by rw [beq_eq_false_iff_ne]; omega
        have e1 : ((no : Int) != 0) = true := by rw [bne_iff_ne]; omega
        obtain ⟨wE, hwE⟩ : ∃ wE, wE = w3 := ⟨_, rfl⟩
        subst hwE
        have HBE := HB3
        have HWE := Lib.hid HW3.out.1
        clear hpl hval HAG3 HTV3 HN3
        obtain ⟨_, _, c2, c3⟩ := hr3.cells
        clear hr3
        go_upto_region 13 with fail
        refine wp_region_held_drew (S := (fun wy => wy.cell? ⟨b0 + 1, 2, none⟩ = some (.int .i64 (no : Nat)) ∧ wy.cell? ⟨b0 + 1, 3, none⟩ = some (.int .i64 (pl : Nat)))) (by kernel_rfl) ⟨c2, c3⟩ (fun hHeld => ?_)
        refine tk 0 (h := ?_)
        try simp only [Act.put, List.setIfInBounds_toArray, List.set_cons_zero, List.set_cons_succ]
        refine tk 1 (h := ?_)
        try simp only [Act.put, List.setIfInBounds_toArray, List.set_cons_zero, List.set_cons_succ]
        refine tk 2 (h := ?_)
        try simp only [Act.put, List.setIfInBounds_toArray, List.set_cons_zero, List.set_cons_succ]
        refine tk 3 (h := ?_)
        try simp only [Act.put, List.setIfInBounds_toArray, List.set_cons_zero, List.set_cons_succ]
        refine tk 4 (h := ?_)
        try simp only [Act.put, List.setIfInBounds_toArray, List.set_cons_zero, List.set_cons_succ]
        refine tk 5 (h := ?_)
        try simp only [Act.put, List.setIfInBounds_toArray, List.set_cons_zero, List.set_cons_succ]
        refine tk 6 (h := ?_)
        try simp only [Act.put, List.setIfInBounds_toArray, List.set_cons_zero, List.set_cons_succ]
        refine tk 7 (h := ?_)
        try simp only [Act.put, List.setIfInBounds_toArray, List.set_cons_zero, List.set_cons_succ]
        refine tk 8 (h := ?_)
        try simp only [Act.put, List.setIfInBounds_toArray, List.set_cons_zero, List.set_cons_succ]
        refine wpAnyH_ready (rs := [9]) (by kernel_rfl) (by simp) ?_
        refine rdy (fun K hK => ?_) AllReadyH.nil
        rw [if_pos (by rfl)]
        refine wp_store_row 25 _ _ rfl b0 #[.int .i64 0, .int .i64 0, .string ⟨#[]⟩, .slice none 0 0, .slice none 0 0] rfl rfl 25 #[.int .i64 0, .int .i64 0, .string ⟨#[]⟩, .slice none 0 0, .slice none 0 0] HBE.out (by kernel_rfl) rfl (by simp [Value.oneCell']) ?_
        have HS13 : Hid ((wE.drew.setRow b0 #[.int .i64 0, .int .i64 0, .string ⟨#[]⟩, .slice none 0 0, .slice none 0 0]).cell? ⟨b0 + 1, 2, none⟩ = some (.int .i64 (no : Nat)) ∧ (wE.drew.setRow b0 #[.int .i64 0, .int .i64 0, .string ⟨#[]⟩, .slice none 0 0, .slice none 0 0]).cell? ⟨b0 + 1, 3, none⟩ = some (.int .i64 (pl : Nat))) := Lib.hid ⟨(cell_setRow_other _ _ _ _ (by show b0 + 1 ≠ b0; omega)).trans c2, (cell_setRow_other _ _ _ _ (by show b0 + 1 ≠ b0; omega)).trans c3⟩
        refine hK.out _ _ HS13.out (fun _ => ?_)
        clear hK
        try simp only [Act.put]
        refine tk 10 (h := ?_)
        try simp only [Act.put, List.setIfInBounds_toArray, List.set_cons_zero, List.set_cons_succ]
        refine tk 11 (h := ?_)
        try simp only [Act.put, List.setIfInBounds_toArray, List.set_cons_zero, List.set_cons_succ]
        refine wpAnyH_done (by kernel_rfl) ?_ _
        go_wp2_with fail
        exact bodyPost_ret (results_row_2tmp (p := 2) (u := 3) (v := 4) rfl _ _ b0 25 _ (0, 0) _ rfl (setRow_heap _ _ _ _ _ _ HBE.out) Tryz.underlying25 rfl (by kernel_rfl)) rfl (ps_err HPE.out HPL.out (below_setRow (Below.drew HWE.out) (by have := HB0.out; omega) _))
end Js
end Go.Proofs.YtlfeddgpfaigkaaGreatDoor
