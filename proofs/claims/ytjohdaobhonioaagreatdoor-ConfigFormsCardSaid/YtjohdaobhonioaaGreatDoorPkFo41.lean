/-
  Parts of the proof: CfFo.
-/
import Derived.Test.YtjohdaobhonioaaGreatDoorPkFo40
namespace Go.Proofs.YtjohdaobhonioaaGreatDoor
open Go.RowKit
namespace Js.Cf
theorem pick_at (n : Int) (k : Nat) (hk : 1 ≤ k) (hk2 : k ≤ 1099511627776) (w : World) :
   Calls Tryz.prog 19 #[.int .i64 n, .int .i64 k] w fun x w' => ∃ p : Nat, x = .returned (.int .i64 p) /\ p < k /\ w = w' := by
 have hk0 : ((k : Int) < 1) = False := eq_false (by omega)
 have hkn : ((k : Int) == 0) = false := by rw [beq_eq_false_iff_ne]; omega
 have hb1 : n.tmod (k : Int) < k := Int.tmod_lt_of_pos n (by omega)
 have hb2 : -(k : Int) < n.tmod (k : Int) := by
   have h2 := Int.tmod_lt_of_pos (-n) (show (0 : Int) < (k : Int) by omega)
   rw [Int.neg_tmod] at h2
   omega
 by_cases h2 : n.tmod (k : Int) < 0
 . obtain ⟨p, hp⟩ : ∃ p : Nat, n.tmod (k : Int) + k = p := ⟨(n.tmod (k : Int) + k).toNat, by omega⟩
   have h2' : (n.tmod (k : Int) < 0) = True := eq_true h2
   go_enter Tryz.func19, Tryz.ntmps19
   go_wp2
   go_ret
   exact ⟨p, by rw [<- hp]; rfl, by omega, rfl⟩
 . obtain ⟨p, hp⟩ : ∃ p : Nat, n.tmod (k : Int) = p := ⟨(n.tmod (k : Int)).toNat, by omega⟩
   have h2' : (n.tmod (k : Int) < 0) = False := eq_false h2
   go_enter Tryz.func19, Tryz.ntmps19
   go_wp2
   go_ret
   exact ⟨p, by rw [<- hp]; rfl, by omega, rfl⟩
theorem str_list (b : ByteArray) : ∃ l : B, b = ⟨l.toArray⟩ := ⟨b.data.toList, by cases b; simp⟩
set_option maxHeartbeats 8000000 in
set_option maxRecDepth 100000 in
theorem configForms_any (s : B) (n : Int) (c : UInt8) (w : World) (hl : s.length ≤ 9223372036854775807) (hst : St w) :
   Calls Tryz.prog 5 #[.string ⟨s.toArray⟩, .int .i64 n, .int .u8 c.toNat] w fun x w' => x = .returned (.bool true) /\ Below w.heap.size w w' := by
 have HST := Lib.hid hst
 obtain ⟨b0, hb0⟩ : ∃ b0, b0 = w.heap.size := ⟨_, rfl⟩
 have HB0 := Lib.hid hb0
 clear hst hb0
 have HWa : Hid (Below b0 w w) := Lib.hid (Below.refl _ _)
 by_cases hbig : 1048576 < s.length
 . go_enter Tryz.func5, Tryz.ntmps5
   go_wp2
   go_ret
   exact ⟨rfl, by rw [<- HB0.out]; exact HWa.out⟩
 have hs1 : s.length ≤ 1048576 := by omega
 have HLS := Lib.hid hs1
 have HPK := Lib.hid (pick_at n (s.length + 1) (by omega) (by omega) w)
 rw [show ((s.length + 1 : Nat) : Int) = (s.length : Int) + 1 by push_cast; rfl] at HPK
 go_enter Tryz.func5, Tryz.ntmps5
 go_upto_region 4 with fail
 refine HPK.out.mono ?_
 rintro x w1 ⟨p, rfl, hp, rfl⟩
 have HPP : Hid (p ≤ s.length) := Lib.hid (by omega)
 clear HPK hl hbig
 go_upto_region 4 with fail
 go_cut [7] (fun z wx => ∃ ms : B, z = .string ⟨ms.toArray⟩ /\ Hid (Below b0 w wx))
 case first =>
   have hs2 := fun wx => run_slice_to_list Tryz.underlying9 s .i64 (p : Int) p rfl HPP.out wx
   have hs3 := fun wx => run_slice_from_list Tryz.underlying9 s .i64 (p : Int) p rfl HPP.out wx
   have ht1 : (s.take p).length ≤ 1048576 := by rw [List.length_take]; omega
   have ht2 : (s.drop p).length ≤ 1048576 := by rw [List.length_drop]; omega
   generalize s.take p = tp at hs2 ht1
   generalize s.drop p = dp at hs3 ht2
   have hcv := run_convert_reads (P := Tryz.prog) Tryz.underlying51 Tryz.underlying5 Tryz.underlying9 1 (l := [c]) (by
    have e : Lib.byteCells [c] = [.int .u8 (c.toNat : Int)] := by simp [Lib.byteCells]
    rw [e]
    exact (Reads.of_block (n := 1) (size := 1) (heap_alloc_new w (.cells #[.int .u8 (c.toNat : Int)] 5)) rfl).drew)
   have hi1 : (0 : Int) ≤ (p : Int) := by omega
   have hi2 : (p : Int) ≤ (s.length : Int) := by have := HPP.out; omega
   have hl1 : (9223372036854775807 < tp.length + 1) = False := eq_false (by omega)
   have hl2 : (9223372036854775807 < tp.length + 1 + dp.length) = False := eq_false (by omega)
   go_region_with (fail)
   go_wp2_with fail
   go_meet
   obtain ⟨ms, hms⟩ := str_list ((⟨tp.toArray⟩ : ByteArray) ++ ⟨#[c]⟩ ++ ⟨dp.toArray⟩)
   exact ⟨ms, by rw [hms], Lib.hid ((HWa.out.alloc (Nat.le_of_eq HB0.out) _).drew)⟩
 case rest =>
   obtain ⟨ms, rfl, HWb⟩ := hcut
   go_upto_if 59 with fail
   go_cut [8] (fun z wx => ∃ ls : B, z = .string ⟨ls.toArray⟩ /\ Hid (Below b0 w wx))
   case first =>
    by_cases hpl : p < s.length
    . have hs2 := fun wx => run_slice_to_list Tryz.underlying9 s .i64 (p : Int) p rfl HPP.out wx
      have hs3 := fun wx => run_slice_from_list Tryz.underlying9 s .i64 ((p : Int) + 1) (p + 1) (by push_cast; rfl) (by omega) wx
      have ht1 : (s.take p).length ≤ 1048576 := by rw [List.length_take]; omega
      have ht2 : (s.drop (p + 1)).length ≤ 1048576 := by rw [List.length_drop]; omega
      generalize s.take p = tp at hs2 ht1
      generalize s.drop (p + 1) = dp at hs3 ht2
      have hi1 : (0 : Int) ≤ (p : Int) := by omega
      have hi2 : (p : Int) + 1 ≤ (s.length : Int) := by omega
      have hl2 : (9223372036854775807 < tp.length + dp.length) = False := eq_false (by omega)
      go_upto_region 7 with fail
      refine wp_region_held_drew (S := fun _ => True) (by kernel_rfl) trivial (fun hHeld => ?_)
      refine tk 0 (h := ?_)
      try simp only [Act.put, List.setIfInBounds_toArray, List.set_cons_zero, List.set_cons_succ]
      refine tk 1 (h := ?_)
      try simp only [Act.put, List.setIfInBounds_toArray, List.set_cons_zero, List.set_cons_succ]
      refine tk 2 (h := ?_)
      try simp only [Act.put, List.setIfInBounds_toArray, List.set_cons_zero, List.set_cons_succ]
      clear hs2
      refine tk 3 (h := ?_)
      try simp only [Act.put, List.setIfInBounds_toArray, List.set_cons_zero, List.set_cons_succ]
      refine tk 4 (h := ?_)
      try simp only [Act.put, List.setIfInBounds_toArray, List.set_cons_zero, List.set_cons_succ]
      have hwp : IntKind.i64.wrap ((p : Int) + 1) = (p : Int) + 1 := IntWalk.i64_in _ ⟨by omega, by omega⟩
      refine tk 5 (h := ?_)
      try simp only [Act.put, List.setIfInBounds_toArray, List.set_cons_zero, List.set_cons_succ]
      try rw [hwp]
      clear hwp
      refine tk 6 (h := ?_)
      try simp only [Act.put, List.setIfInBounds_toArray, List.set_cons_zero, List.set_cons_succ]
      clear hs3
      refine tk 7 (h := ?_)
      try simp only [Act.put, List.setIfInBounds_toArray, List.set_cons_zero, List.set_cons_succ]
      refine tk 8 (h := ?_)
      try simp only [Act.put, List.setIfInBounds_toArray, List.set_cons_zero, List.set_cons_succ]
      refine wpAnyH_done (by kernel_rfl) ?_ _
      clear hHeld hi1 hi2 hl2 hpl hp
      go_wp2_with fail
      go_meet
      obtain ⟨ms, hms⟩ := str_list ((⟨tp.toArray⟩ : ByteArray) ++ ⟨dp.toArray⟩)
      exact ⟨ms, by rw [hms], Lib.hid (HWb.out.drew)⟩
    . go_wp2_with fail
      go_meet
      exact ⟨s, rfl, HWb⟩
   case rest =>
    obtain ⟨ls, rfl, HWc⟩ := hcut
    clear HWa HWb
    have HPI := Lib.hid (parseImage_x (s) wc (HST.out.below (by rw [<- HB0.out]; exact HWc.out)))
    go_upto_region 9 with fail
    refine HPI.out.mono ?_
    rintro x wy ⟨i1, c1, e1, rfl, him, hfew, hev, hb⟩
    have HE1 := Lib.hid hev
    have HY : Hid (Below b0 w wy) := Lib.hid (HWc.out.trans (hb.mono (by have := HWc.out.size; have := HB0.out; omega)))
    have hzz : c1.size = 9 := him.size
    have hoo := him.one
    have hii := him.info
    have HIM := Lib.hid him
    have HFW1 := Lib.hid hfew
    clear him hfew hev hb HPI
    go_upto_region 9 with (refine wpList_store_row rfl 29 _ _ rfl _ _ rfl rfl 29 _ (heap_alloc_new _ _) hii (by exact hzz.symm) hoo ?_)
    rw [alloc_setRow]
    obtain ⟨b1, hbn⟩ : ∃ b1, b1 = wy.heap.size := ⟨_, rfl⟩
    obtain ⟨w1, hwn⟩ : ∃ w1, w1 = wy.alloc (.cells c1 29) := ⟨_, rfl⟩
    have hbb : Below wy.heap.size wy w1 := by rw [hwn]; exact (Below.refl _ _).alloc (Nat.le_refl _) _
    have HBK1 : Hid (Blk w1 b1 29 c1) := Lib.hid (by rw [hwn, hbn]; exact Blk.new _ _ _)
    have HR1 : Hid (ImgR w1 w1.heap.size i1 c1) := Lib.hid (HIM.out.up hbb)
    have HW1 : Hid (Below b0 w w1) := Lib.hid (HY.out.trans (hbb.mono (by have := HY.out.size; have := HB0.out; omega)))
    rw [<- hwn, <- hbn]
    clear hwn hbn hbb hzz hoo hii HIM HY
    obtain ⟨z1, hq1, hy1, hn1⟩ := evI_q HE1.out
    have HY1 := Lib.hid (And.intro hy1 hn1)
    have q1 := hq1.eq
    have g1 := hq1.ge
    clear hq1 hy1 hn1
    go_upto_if 74 with fail
    go_cut [6] from 10 to 222 (fun z wx => z = .bool false /\ Hid (Below b0 w wx))
    case first =>
      cases z1 with
      | false =>
       go_wp2_with fail
       go_meet
       exact ⟨rfl, HW1⟩
      | true =>
       as_aux_lemma =>
        obtain ⟨rfl, hp1⟩ := HY1.out.1 (by trivial)
        have HP1 := Lib.hid hp1
        have HMG := Lib.hid (prog_some hp1).1
        clear hp1 q1 g1
        have HCI := Lib.hid (image_any i1 c1 w1 HR1.out HFW1.out (HST.out.below (by rw [<- HB0.out]; exact HW1.out)))
        have hrg : w1.rangeAt b1 0 c1.toList := fun jj v hv => by rw [Nat.zero_add, HBK1.out.cell]; simpa using hv
        have hin : (Tryz.prog.info? 29).map (·.size) = some c1.toList.length := by rw [Array.length_toList]; exact HR1.out.info
        go_upto_region 11 with (refine wpList_load_as (.agg c1) rfl 29 _ rfl b1 0 rfl c1.toList _ hrg Tryz.underlying29 rfl hin (by simp) ?_)
        refine HCI.out.mono ?_
        rintro x w2 ⟨rfl, hb⟩
        have HW2 : Hid (Below b0 w w2) := Lib.hid (HW1.out.trans (hb.mono (by have := HW1.out.size; have := HB0.out; omega)))
        clear hb hrg hin HCI
        rw [HMG.out]
        rw [show errV (s, 0).2 = Value.nilIface from rfl, show (s, 0).1 = s from rfl]
        have HPJ := Lib.hid (parse_any s w2 (HST.out.below (by rw [<- HB0.out]; exact HW2.out)))
        go_upto_region 12 with fail
        refine HPJ.out.mono ?_
        intro x wy hx
        unfold PaPost at hx
        obtain ⟨hh, kk, rr, hpj⟩ := progI_parse HP1.out
        rw [hpj] at hx
        obtain ⟨iv, kv, bs, rfl, hot, _, hb⟩ := hx
        have hone := (VT.of_ot (v := (hh, kk)) hot).one
        have HY : Hid (Below b0 w wy) := Lib.hid (HW2.out.trans (hb.mono (by have := HW2.out.size; have := HB0.out; omega)))
        clear hot hb hpj HPJ
        have hi5 : (Tryz.prog.info? 54).map (·.size) = some 5 := by kernel_rfl
        go_upto_region 12 with (refine wpList_store_row rfl 54 _ _ rfl _ _ rfl rfl 54 _ (heap_alloc_new _ _) (by simpa using hi5) (by simp) (all_oneCell_toArray hone) ?_)
        rw [alloc_setRow]
        obtain ⟨w3, hwn⟩ : ∃ w3, w3 = wy.alloc (.cells #[.int .i64 hh.kind, .int .i64 hh.num, .string ⟨hh.text.toArray⟩, iv, kv] 54) := ⟨_, rfl⟩
        have HW3 : Hid (Below b0 w w3) := Lib.hid (by rw [hwn]; exact HY.out.alloc (by have := HY.out.size; have := HB0.out; omega) _)
        rw [<- hwn]
        clear hwn hone hi5 HY
        have hadd : (⟨s.toArray⟩ : ByteArray) ++ ⟨#[c]⟩ = ⟨(s ++ [c]).toArray⟩ := by apply ByteArray.ext; simp
        obtain ⟨w3x, hwn⟩ : ∃ w3x, w3x = w3.alloc (.cells #[.int .u8 (c.toNat : Int)] 5) := ⟨_, rfl⟩
        have hcv := run_convert_reads (P := Tryz.prog) Tryz.underlying51 Tryz.underlying5 Tryz.underlying9 1 (l := [c]) (by
         have e : Lib.byteCells [c] = [.int .u8 (c.toNat : Int)] := by simp [Lib.byteCells]
         rw [e]
         exact Reads.of_block (n := 1) (size := 1) (heap_alloc_new w3 (.cells #[.int .u8 (c.toNat : Int)] 5)) rfl)
        have HW3x : Hid (Below b0 w w3x) := Lib.hid (by rw [hwn]; exact HW3.out.alloc (by have := HW3.out.size; have := HB0.out; omega) _)
        have HPI := Lib.hid (parseImage_x (s ++ [c]) w3x (HST.out.below (by rw [<- HB0.out]; exact HW3x.out)))
        go_upto_region 15 with fail
        rw [<- hwn]
        clear hwn hcv hadd
        refine HPI.out.mono ?_
        rintro x wy ⟨i5, c5, e5, rfl, him, hfew, hev, hb⟩
        have HE5 := Lib.hid hev
        have HY : Hid (Below b0 w wy) := Lib.hid (HW3x.out.trans (hb.mono (by have := HW3x.out.size; have := HB0.out; omega)))
        have hzz : c5.size = 9 := him.size
        have hoo := him.one
        have hii := him.info
        have HIM := Lib.hid him
        have HFW5 := Lib.hid hfew
        clear him hfew hev hb HPI
        go_upto_region 15 with (refine wpList_store_row rfl 29 _ _ rfl _ _ rfl rfl 29 _ (heap_alloc_new _ _) hii (by exact hzz.symm) hoo ?_)
        rw [alloc_setRow]
        obtain ⟨b5, hbn⟩ : ∃ b5, b5 = wy.heap.size := ⟨_, rfl⟩
        obtain ⟨w5, hwn⟩ : ∃ w5, w5 = wy.alloc (.cells c5 29) := ⟨_, rfl⟩
        have hbb : Below wy.heap.size wy w5 := by rw [hwn]; exact (Below.refl _ _).alloc (Nat.le_refl _) _
        have HBK5 : Hid (Blk w5 b5 29 c5) := Lib.hid (by rw [hwn, hbn]; exact Blk.new _ _ _)
        have HR5 : Hid (ImgR w5 w5.heap.size i5 c5) := Lib.hid (HIM.out.up hbb)
        have HW5 : Hid (Below b0 w w5) := Lib.hid (HY.out.trans (hbb.mono (by have := HY.out.size; have := HB0.out; omega)))
        rw [<- hwn, <- hbn]
        clear hwn hbn hbb hzz hoo hii HIM HY
        have hee : e5 = Value.iface 110 (.int .i64 4) := by
         have he := HE5.out
         unfold EvI at he
         rcases he with ⟨_, h⟩ | ⟨h, _⟩
         . rw [img_more HP1.out (by simp)] at h; cases h
         . exact h
        subst hee
        have hs2 := fun wx => run_slice_to_list Tryz.underlying9 s .i64 (p : Int) p rfl HPP.out wx
        have HPI := Lib.hid (parseImage_x (s.take p) w5 (HST.out.below (by rw [<- HB0.out]; exact HW5.out)))
        go_upto_region 16 with fail
        refine HPI.out.mono ?_
        rintro x wy ⟨i6, c6, e6, rfl, him, hfew, hev, hb⟩
        have HE6 := Lib.hid hev
        have HY : Hid (Below b0 w wy) := Lib.hid (HW5.out.trans (hb.mono (by have := HW5.out.size; have := HB0.out; omega)))
        have hzz : c6.size = 9 := him.size
        have hoo := him.one
        have hii := him.info
        have HIM := Lib.hid him
        have HFW6 := Lib.hid hfew
        clear him hfew hev hb HPI
        go_upto_region 16 with (refine wpList_store_row rfl 29 _ _ rfl _ _ rfl rfl 29 _ (heap_alloc_new _ _) hii (by exact hzz.symm) hoo ?_)
        rw [alloc_setRow]
        obtain ⟨b6, hbn⟩ : ∃ b6, b6 = wy.heap.size := ⟨_, rfl⟩
        obtain ⟨w6, hwn⟩ : ∃ w6, w6 = wy.alloc (.cells c6 29) := ⟨_, rfl⟩
        have hbb : Below wy.heap.size wy w6 := by rw [hwn]; exact (Below.refl _ _).alloc (Nat.le_refl _) _
        have HBK6 : Hid (Blk w6 b6 29 c6) := Lib.hid (by rw [hwn, hbn]; exact Blk.new _ _ _)
        have HR6 : Hid (ImgR w6 w6.heap.size i6 c6) := Lib.hid (HIM.out.up hbb)
        have HW6 : Hid (Below b0 w w6) := Lib.hid (HY.out.trans (hbb.mono (by have := HY.out.size; have := HB0.out; omega)))
        rw [<- hwn, <- hbn]
        clear hwn hbn hbb hzz hoo hii HIM HY
        clear hs2
        obtain ⟨z6, hq6, hy6, hn6⟩ := evI_q HE6.out
        have HY6 := Lib.hid (And.intro hy6 hn6)
        have q6 := hq6.eq
        have g6 := hq6.ge
        clear hq6 hy6 hn6
        go_upto_region 16 with fail
        go_cut [123] (fun z wx => z = .bool false /\ wx = w6)
        case first =>
         by_cases hpl : p < s.length
         . cases z6 with
           | true => exact absurd (HY6.out.1 (by trivial)).2 (by rw [img_less HP1.out hpl]; intro e; cases e)
           | false =>
            go_wp2_with fail
            go_meet
            exact ⟨rfl, rfl⟩
         . go_wp2_with fail
           go_meet
           exact ⟨rfl, rfl⟩
        case rest =>
         obtain ⟨rfl, hwc⟩ := hcut
         rw [hwc]
         clear hwc
         clear q6 g6
         have HPI := Lib.hid (parseImage_x (ms) w6 (HST.out.below (by rw [<- HB0.out]; exact HW6.out)))
         go_upto_region 19 with fail
         refine HPI.out.mono ?_
         rintro x wy ⟨i7, c7, e7, rfl, him, hfew, hev, hb⟩
         have HE7 := Lib.hid hev
         have HY : Hid (Below b0 w wy) := Lib.hid (HW6.out.trans (hb.mono (by have := HW6.out.size; have := HB0.out; omega)))
         have hzz : c7.size = 9 := him.size
         have hoo := him.one
         have hii := him.info
         have HIM := Lib.hid him
         have HFW7 := Lib.hid hfew
         clear him hfew hev hb HPI
         go_upto_region 19 with (refine wpList_store_row rfl 29 _ _ rfl _ _ rfl rfl 29 _ (heap_alloc_new _ _) hii (by exact hzz.symm) hoo ?_)
         rw [alloc_setRow]
         obtain ⟨b7, hbn⟩ : ∃ b7, b7 = wy.heap.size := ⟨_, rfl⟩
         obtain ⟨w7, hwn⟩ : ∃ w7, w7 = wy.alloc (.cells c7 29) := ⟨_, rfl⟩
         have hbb : Below wy.heap.size wy w7 := by rw [hwn]; exact (Below.refl _ _).alloc (Nat.le_refl _) _
         have HBK7 : Hid (Blk w7 b7 29 c7) := Lib.hid (by rw [hwn, hbn]; exact Blk.new _ _ _)
         have HR7 : Hid (ImgR w7 w7.heap.size i7 c7) := Lib.hid (HIM.out.up hbb)
         have HW7 : Hid (Below b0 w w7) := Lib.hid (HY.out.trans (hbb.mono (by have := HY.out.size; have := HB0.out; omega)))
         rw [<- hwn, <- hbn]
         clear hwn hbn hbb hzz hoo hii HIM HY
         obtain ⟨z7, hq7, hy7, hn7⟩ := evI_q HE7.out
         have HY7 := Lib.hid (And.intro hy7 hn7)
         have q7 := hq7.eq
         have g7 := hq7.ge
         clear hq7 hy7 hn7
         have HCI := Lib.hid (image_any i7 c7 w7 HR7.out HFW7.out (HST.out.below (by rw [<- HB0.out]; exact HW7.out)))
         have hrg : w7.rangeAt b7 0 c7.toList := fun jj v hv => by rw [Nat.zero_add, HBK7.out.cell]; simpa using hv
         have hin : (Tryz.prog.info? 29).map (·.size) = some c7.toList.length := by rw [Array.length_toList]; exact HR7.out.info
         go_upto_region 20 with (refine wpList_load_as (.agg c7) rfl 29 _ rfl b7 0 rfl c7.toList _ hrg Tryz.underlying29 rfl hin (by simp) ?_)
         refine HCI.out.mono ?_
         rintro x w8 ⟨rfl, hb⟩
         have HW8 : Hid (Below b0 w w8) := Lib.hid (HW7.out.trans (hb.mono (by have := HW7.out.size; have := HB0.out; omega)))
         clear hb hrg hin HCI
         obtain ⟨t8, ht⟩ : ∃ t8, t8 = (imgP i7).1 := ⟨_, rfl⟩
         obtain ⟨n8, hn⟩ : ∃ n8, n8 = (imgP i7).2 := ⟨_, rfl⟩
         have HT8 : Hid (imgP i7 = (t8, n8)) := Lib.hid (by rw [ht, hn])
         rw [<- ht, <- hn]
         clear ht hn
         go_upto_region 20 with fail
         go_cut [144] (fun z wx => z = .bool false /\ wx = w8)
         case first =>
           cases z7 with
           | true =>
            have hpp := (prog_some (HY7.out.1 (by trivial)).2).1
            rw [HT8.out] at hpp
            injection hpp with h1 h2
            subst h1 h2
            rw [show errV 0 = Value.nilIface from rfl]
            go_wp2_with fail
            go_meet
            exact ⟨rfl, rfl⟩
           | false =>
            go_wp2_with fail
            go_meet
            exact ⟨rfl, rfl⟩
         case rest =>
           obtain ⟨rfl, hwc⟩ := hcut
           rw [hwc]
           clear hwc
           clear q7 g7
           have HPI := Lib.hid (parseImage_x (ls) w8 (HST.out.below (by rw [<- HB0.out]; exact HW8.out)))
           go_upto_region 23 with fail
           refine HPI.out.mono ?_
           rintro x wy ⟨i9, c9, e9, rfl, him, hfew, hev, hb⟩
           have HE9 := Lib.hid hev
           have HY : Hid (Below b0 w wy) := Lib.hid (HW8.out.trans (hb.mono (by have := HW8.out.size; have := HB0.out; omega)))
           have hzz : c9.size = 9 := him.size
           have hoo := him.one
           have hii := him.info
           have HIM := Lib.hid him
           have HFW9 := Lib.hid hfew
           clear him hfew hev hb HPI
           go_upto_region 23 with (refine wpList_store_row rfl 29 _ _ rfl _ _ rfl rfl 29 _ (heap_alloc_new _ _) hii (by exact hzz.symm) hoo ?_)
           rw [alloc_setRow]
           obtain ⟨b9, hbn⟩ : ∃ b9, b9 = wy.heap.size := ⟨_, rfl⟩
           obtain ⟨w9, hwn⟩ : ∃ w9, w9 = wy.alloc (.cells c9 29) := ⟨_, rfl⟩
           have hbb : Below wy.heap.size wy w9 := by rw [hwn]; exact (Below.refl _ _).alloc (Nat.le_refl _) _
           have HBK9 : Hid (Blk w9 b9 29 c9) := Lib.hid (by rw [hwn, hbn]; exact Blk.new _ _ _)
           have HR9 : Hid (ImgR w9 w9.heap.size i9 c9) := Lib.hid (HIM.out.up hbb)
           have HW9 : Hid (Below b0 w w9) := Lib.hid (HY.out.trans (hbb.mono (by have := HY.out.size; have := HB0.out; omega)))
           rw [<- hwn, <- hbn]
           clear hwn hbn hbb hzz hoo hii HIM HY
           obtain ⟨z9, hq9, hy9, hn9⟩ := evI_q HE9.out
           have HY9 := Lib.hid (And.intro hy9 hn9)
           have q9 := hq9.eq
           have g9 := hq9.ge
           clear hq9 hy9 hn9
           have HCI := Lib.hid (image_any i9 c9 w9 HR9.out HFW9.out (HST.out.below (by rw [<- HB0.out]; exact HW9.out)))
           have hrg : w9.rangeAt b9 0 c9.toList := fun jj v hv => by rw [Nat.zero_add, HBK9.out.cell]; simpa using hv
           have hin : (Tryz.prog.info? 29).map (·.size) = some c9.toList.length := by rw [Array.length_toList]; exact HR9.out.info
           go_upto_region 24 with (refine wpList_load_as (.agg c9) rfl 29 _ rfl b9 0 rfl c9.toList _ hrg Tryz.underlying29 rfl hin (by simp) ?_)
           refine HCI.out.mono ?_
           rintro x wA ⟨rfl, hb⟩
           have HWA : Hid (Below b0 w wA) := Lib.hid (HW9.out.trans (hb.mono (by have := HW9.out.size; have := HB0.out; omega)))
           clear hb hrg hin HCI
           obtain ⟨tA, ht⟩ : ∃ tA, tA = (imgP i9).1 := ⟨_, rfl⟩
           obtain ⟨nA, hn⟩ : ∃ nA, nA = (imgP i9).2 := ⟨_, rfl⟩
           have HTA : Hid (imgP i9 = (tA, nA)) := Lib.hid (by rw [ht, hn])
           rw [<- ht, <- hn]
           clear ht hn
           go_upto_region 24 with fail
           go_cut [165] (fun z wx => z = .bool false /\ wx = wA)
           case first =>
            cases z9 with
            | true =>
             have hpp := (prog_some (HY9.out.1 (by trivial)).2).1
             rw [HTA.out] at hpp
             injection hpp with h1 h2
             subst h1 h2
             rw [show errV 0 = Value.nilIface from rfl]
             go_wp2_with fail
             go_meet
             exact ⟨rfl, rfl⟩
            | false =>
             go_wp2_with fail
             go_meet
             exact ⟨rfl, rfl⟩
           case rest =>
            obtain ⟨rfl, hwc⟩ := hcut
            rw [hwc]
            clear hwc
            go_wp2_with fail
            go_meet
            exact ⟨rfl, HWA⟩
    case rest =>
      clear HWc
      obtain ⟨rfl, HWc⟩ := hcut
      as_aux_lemma =>
       have HPI := Lib.hid (parseManifest_x (s) wc (HST.out.below (by rw [<- HB0.out]; exact HWc.out)))
       go_upto_region 27 with fail
       refine HPI.out.mono ?_
       rintro x wy ⟨ie, Ae, ke, ee, rfl, hrd, hok, hln, hev, hb⟩
       have HEe := Lib.hid hev
       have HY : Hid (Below b0 w wy) := Lib.hid (HWc.out.trans (hb.mono (by have := HWc.out.size; have := HB0.out; omega)))
       have HRY := Lib.hid hrd
       have HOKe : Hid (MfOk ie /\ ie.layers.length ≤ 4194304) := Lib.hid ⟨hok, hln⟩
       obtain ⟨pe, hpp⟩ : ∃ pe, pe = pcV ie.cfg := ⟨_, rfl⟩
       obtain ⟨ne, hnn⟩ : ∃ ne, ne = ie.layers.length := ⟨_, rfl⟩
       have HPe : Hid (pe = pcV ie.cfg /\ ne = ie.layers.length /\ pe.length = 33 /\ pe.toArray.all (·.oneCell') = true) := Lib.hid ⟨hpp, hnn, by rw [hpp]; exact pcV_len hok.1.1, by rw [hpp]; exact one_piece _ _⟩
       rw [<- hpp, <- hnn]
       clear hrd hok hln hev hb hpp hnn HPI
       go_upto_region 27 with (refine wpList_store_row rfl 45 _ _ rfl _ _ rfl rfl 45 _ (heap_alloc_new _ _) (infoMx pe HPe.out.2.2.1 _) (by exact (size34 HPe.out.2.2.1 _).symm) (one_app HPe.out.2.2.2) ?_)
       rw [alloc_setRow]
       obtain ⟨be, hbn⟩ : ∃ be, be = wy.heap.size := ⟨_, rfl⟩
       obtain ⟨we, hwn⟩ : ∃ we, we = wy.alloc (.cells (pe ++ [Value.slice Ae ne ke]).toArray 45) := ⟨_, rfl⟩
       have hbb : Below wy.heap.size wy we := by rw [hwn]; exact (Below.refl _ _).alloc (Nat.le_refl _) _
       have HBKe : Hid (Blk we be 45 (pe ++ [Value.slice Ae ne ke]).toArray) := Lib.hid (by rw [hwn, hbn]; exact Blk.new _ _ _)
       have HRe : Hid (Reads we we.heap.size 33 Ae ie.layers.length (pcC ie.layers)) := Lib.hid (reads_up HRY.out hbb)
       have HWe : Hid (Below b0 w we) := Lib.hid (HY.out.trans (hbb.mono (by have := HY.out.size; have := HB0.out; omega)))
       rw [<- hwn, <- hbn]
       clear hwn hbn hbb HRY HY
       obtain ⟨ze, hqe, hye, hne⟩ := evM_q HEe.out
       have HYe := Lib.hid (And.intro hye hne)
       have qe := hqe.eq
       have ge := hqe.ge
       clear hqe hye hne
       cases ze with
       | false =>
        have HWK := Lib.hid (works_any we (HST.out.below (by rw [<- HB0.out]; exact HWe.out)))
        go_wp2_with fail
        refine HWK.out.mono ?_
        rintro x wo ⟨rfl, h7⟩
        have HWo : Hid (Below b0 w wo) := Lib.hid (HWe.out.trans (h7.mono (by have := HWe.out.size; have := HB0.out; omega)))
        clear h7 HWK
        go_wp2
        go_ret
        exact ⟨rfl, by rw [<- HB0.out]; exact HWo.out⟩
       | true =>
        obtain ⟨rfl, hpe⟩ := HYe.out.1 (by trivial)
        have HPe2 := Lib.hid hpe
        have HMG := Lib.hid (progM_some hpe).1
        clear hpe qe ge
        have HCI : Hid (Calls Tryz.prog 16 #[.agg (pe ++ [Value.slice Ae ne ke]).toArray] we fun x w' => x = .returned (.tuple #[.string ⟨(mfP ie).1.toArray⟩, errV (mfP ie).2]) /\ Below we.heap.size we w') := Lib.hid (by
         rw [HPe.out.1, HPe.out.2.1]
         exact manifest_any ie Ae ke we HOKe.out.1 HRe.out (by have := HOKe.out.2; omega) (HST.out.below (by rw [<- HB0.out]; exact HWe.out)))
        have hrg : we.rangeAt be 0 (pe ++ [Value.slice Ae ne ke]) := fun jj v hv => by rw [Nat.zero_add, HBKe.out.cell]; simpa using hv
        have hin : (Tryz.prog.info? 45).map (·.size) = some (pe ++ [Value.slice Ae ne ke]).length := by rw [List.length_append, HPe.out.2.2.1]; kernel_rfl
        go_upto_region 29 with (refine wpList_load_mid rfl 45 _ rfl be 0 rfl _ _ hrg Tryz.underlying45 rfl hin ?_)
        refine HCI.out.mono ?_
        rintro x wf ⟨rfl, hb⟩
        have HWf : Hid (Below b0 w wf) := Lib.hid (HWe.out.trans (hb.mono (by have := HWe.out.size; have := HB0.out; omega)))
        clear hb hrg hin HCI
        rw [HMG.out]
        rw [show errV (s, 0).2 = Value.nilIface from rfl, show (s, 0).1 = s from rfl]
        have hadd : (⟨s.toArray⟩ : ByteArray) ++ ⟨#[c]⟩ = ⟨(s ++ [c]).toArray⟩ := by apply ByteArray.ext; simp
        obtain ⟨wfx, hwn⟩ : ∃ wfx, wfx = wf.alloc (.cells #[.int .u8 (c.toNat : Int)] 5) := ⟨_, rfl⟩
        have hcv := run_convert_reads (P := Tryz.prog) Tryz.underlying51 Tryz.underlying5 Tryz.underlying9 1 (l := [c]) (by
         have e : Lib.byteCells [c] = [.int .u8 (c.toNat : Int)] := by simp [Lib.byteCells]
         rw [e]
         exact Reads.of_block (n := 1) (size := 1) (heap_alloc_new wf (.cells #[.int .u8 (c.toNat : Int)] 5)) rfl)
        have HWfx : Hid (Below b0 w wfx) := Lib.hid (by rw [hwn]; exact HWf.out.alloc (by have := HWf.out.size; have := HB0.out; omega) _)
        have HPI := Lib.hid (parseManifest_x (s ++ [c]) wfx (HST.out.below (by rw [<- HB0.out]; exact HWfx.out)))
        go_upto_region 30 with fail
        rw [<- hwn]
        clear hwn hcv hadd
        refine HPI.out.mono ?_
        rintro x wy ⟨ig, Ag, kg, eg, rfl, hrd, hok, hln, hev, hb⟩
        have HEg := Lib.hid hev
        have HY : Hid (Below b0 w wy) := Lib.hid (HWfx.out.trans (hb.mono (by have := HWfx.out.size; have := HB0.out; omega)))
        have HRY := Lib.hid hrd
        have HOKg : Hid (MfOk ig /\ ig.layers.length ≤ 4194304) := Lib.hid ⟨hok, hln⟩
        obtain ⟨pg, hpp⟩ : ∃ pg, pg = pcV ig.cfg := ⟨_, rfl⟩
        obtain ⟨ng, hnn⟩ : ∃ ng, ng = ig.layers.length := ⟨_, rfl⟩
        have HPg : Hid (pg = pcV ig.cfg /\ ng = ig.layers.length /\ pg.length = 33 /\ pg.toArray.all (·.oneCell') = true) := Lib.hid ⟨hpp, hnn, by rw [hpp]; exact pcV_len hok.1.1, by rw [hpp]; exact one_piece _ _⟩
        rw [<- hpp, <- hnn]
        clear hrd hok hln hev hb hpp hnn HPI
        go_upto_region 30 with (refine wpList_store_row rfl 45 _ _ rfl _ _ rfl rfl 45 _ (heap_alloc_new _ _) (infoMx pg HPg.out.2.2.1 _) (by exact (size34 HPg.out.2.2.1 _).symm) (one_app HPg.out.2.2.2) ?_)
        rw [alloc_setRow]
        obtain ⟨bg, hbn⟩ : ∃ bg, bg = wy.heap.size := ⟨_, rfl⟩
        obtain ⟨wg, hwn⟩ : ∃ wg, wg = wy.alloc (.cells (pg ++ [Value.slice Ag ng kg]).toArray 45) := ⟨_, rfl⟩
        have hbb : Below wy.heap.size wy wg := by rw [hwn]; exact (Below.refl _ _).alloc (Nat.le_refl _) _
        have HBKg : Hid (Blk wg bg 45 (pg ++ [Value.slice Ag ng kg]).toArray) := Lib.hid (by rw [hwn, hbn]; exact Blk.new _ _ _)
        have HRg : Hid (Reads wg wg.heap.size 33 Ag ig.layers.length (pcC ig.layers)) := Lib.hid (reads_up HRY.out hbb)
        have HWg : Hid (Below b0 w wg) := Lib.hid (HY.out.trans (hbb.mono (by have := HY.out.size; have := HB0.out; omega)))
        rw [<- hwn, <- hbn]
        clear hwn hbn hbb HRY HY
        have hee : eg = Value.iface 110 (.int .i64 4) := by
         have he := HEg.out
         unfold EvM at he
         rcases he with ⟨_, h⟩ | ⟨h, _⟩
         . rw [mf_more HPe2.out (by simp)] at h; cases h
         . exact h
        subst hee
        have hs2 := fun wx => run_slice_to_list Tryz.underlying9 s .i64 (p : Int) p rfl HPP.out wx
        have HPI := Lib.hid (parseManifest_x (s.take p) wg (HST.out.below (by rw [<- HB0.out]; exact HWg.out)))
        go_upto_region 31 with fail
        refine HPI.out.mono ?_
        rintro x wy ⟨ih, Ah, kh, eh, rfl, hrd, hok, hln, hev, hb⟩
        have HEh := Lib.hid hev
        have HY : Hid (Below b0 w wy) := Lib.hid (HWg.out.trans (hb.mono (by have := HWg.out.size; have := HB0.out; omega)))
        have HRY := Lib.hid hrd
        have HOKh : Hid (MfOk ih /\ ih.layers.length ≤ 4194304) := Lib.hid ⟨hok, hln⟩
        obtain ⟨ph, hpp⟩ : ∃ ph, ph = pcV ih.cfg := ⟨_, rfl⟩
        obtain ⟨nh, hnn⟩ : ∃ nh, nh = ih.layers.length := ⟨_, rfl⟩
        have HPh : Hid (ph = pcV ih.cfg /\ nh = ih.layers.length /\ ph.length = 33 /\ ph.toArray.all (·.oneCell') = true) := Lib.hid ⟨hpp, hnn, by rw [hpp]; exact pcV_len hok.1.1, by rw [hpp]; exact one_piece _ _⟩
        rw [<- hpp, <- hnn]
        clear hrd hok hln hev hb hpp hnn HPI
        go_upto_region 31 with (refine wpList_store_row rfl 45 _ _ rfl _ _ rfl rfl 45 _ (heap_alloc_new _ _) (infoMx ph HPh.out.2.2.1 _) (by exact (size34 HPh.out.2.2.1 _).symm) (one_app HPh.out.2.2.2) ?_)
        rw [alloc_setRow]
        obtain ⟨bh, hbn⟩ : ∃ bh, bh = wy.heap.size := ⟨_, rfl⟩
        obtain ⟨wh, hwn⟩ : ∃ wh, wh = wy.alloc (.cells (ph ++ [Value.slice Ah nh kh]).toArray 45) := ⟨_, rfl⟩
        have hbb : Below wy.heap.size wy wh := by rw [hwn]; exact (Below.refl _ _).alloc (Nat.le_refl _) _
        have HBKh : Hid (Blk wh bh 45 (ph ++ [Value.slice Ah nh kh]).toArray) := Lib.hid (by rw [hwn, hbn]; exact Blk.new _ _ _)
        have HRh : Hid (Reads wh wh.heap.size 33 Ah ih.layers.length (pcC ih.layers)) := Lib.hid (reads_up HRY.out hbb)
        have HWh : Hid (Below b0 w wh) := Lib.hid (HY.out.trans (hbb.mono (by have := HY.out.size; have := HB0.out; omega)))
        rw [<- hwn, <- hbn]
        clear hwn hbn hbb HRY HY
        clear hs2
        obtain ⟨zh, hqh, hyh, hnh⟩ := evM_q HEh.out
        have HYh := Lib.hid (And.intro hyh hnh)
        have qh := hqh.eq
        have gh := hqh.ge
        clear hqh hyh hnh
        go_upto_region 31 with fail
        go_cut [205] (fun z wx => z = .bool false /\ wx = wh)
        case first =>
         by_cases hpl : p < s.length
         . cases zh with
           | true => exact absurd (HYh.out.1 (by trivial)).2 (by rw [mf_less HPe2.out hpl]; intro e; cases e)
           | false =>
            go_wp2_with fail
            go_meet
            exact ⟨rfl, rfl⟩
         . go_wp2_with fail
           go_meet
           exact ⟨rfl, rfl⟩
        case rest =>
         obtain ⟨rfl, hwc⟩ := hcut
         rw [hwc]
         clear hwc
         clear qh gh
         have HPJ := Lib.hid (parse_any s wh (HST.out.below (by rw [<- HB0.out]; exact HWh.out)))
         go_upto_region 34 with fail
         refine HPJ.out.mono ?_
         intro x wy hx
         unfold PaPost at hx
         obtain ⟨hh, kk, rr, hpj⟩ := progM_parse HPe2.out
         rw [hpj] at hx
         obtain ⟨iv, kv, bs, rfl, hot, _, hb⟩ := hx
         have hone := (VT.of_ot (v := (hh, kk)) hot).one
         have HY : Hid (Below b0 w wy) := Lib.hid (HWh.out.trans (hb.mono (by have := HWh.out.size; have := HB0.out; omega)))
         clear hot hb hpj HPJ
         have hi5 : (Tryz.prog.info? 54).map (·.size) = some 5 := by kernel_rfl
         go_upto_region 34 with (refine wpList_store_row rfl 54 _ _ rfl _ _ rfl rfl 54 _ (heap_alloc_new _ _) (by simpa using hi5) (by simp) (all_oneCell_toArray hone) ?_)
         rw [alloc_setRow]
         obtain ⟨wk, hwn⟩ : ∃ wk, wk = wy.alloc (.cells #[.int .i64 hh.kind, .int .i64 hh.num, .string ⟨hh.text.toArray⟩, iv, kv] 54) := ⟨_, rfl⟩
         have HWk : Hid (Below b0 w wk) := Lib.hid (by rw [hwn]; exact HY.out.alloc (by have := HY.out.size; have := HB0.out; omega) _)
         rw [<- hwn]
         clear hwn hone hi5 HY
         have HWK := Lib.hid (works_any wk (HST.out.below (by rw [<- HB0.out]; exact HWk.out)))
         go_wp2_with fail
         refine HWK.out.mono ?_
         rintro x wo ⟨rfl, h7⟩
         have HWo : Hid (Below b0 w wo) := Lib.hid (HWk.out.trans (h7.mono (by have := HWk.out.size; have := HB0.out; omega)))
         clear h7 HWK
         go_wp2
         go_ret
         exact ⟨rfl, by rw [<- HB0.out]; exact HWo.out⟩
end Js.Cf
end Go.Proofs.YtjohdaobhonioaaGreatDoor
