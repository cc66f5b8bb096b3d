/-
  Parts of the proof: CfIw.
-/
import Derived.Test.YtjohdaobhonioaaGreatDoorPkFo34
namespace Go.Proofs.YtjohdaobhonioaaGreatDoor
open Go.RowKit
namespace Js.Cf
set_option maxHeartbeats 16000000 in
set_option maxRecDepth 100000 in
theorem image_any (i : Img) (cs : Array Value) (w : World) (him : ImgR w w.heap.size i cs) (hfew : Few i) (hst : St w) :
   Calls Tryz.prog 12 #[.agg cs] w fun x w' => x = .returned (.tuple #[.string ⟨(imgP i).1.toArray⟩, errV (imgP i).2]) /\ Below w.heap.size w w' := by
 obtain ⟨j0, hjI, hy0, hy1, hy2⟩ := info_parts infoJson
 have HIM := Lib.hid him
 obtain ⟨A1, c1, A2, c2, A3, c3, A4, c4, A5, c5, A6, c6, A7, c7, rfl, r1, r2, r3, r4, r5, r6, r7, hd32⟩ := him
 obtain ⟨n1, hn1⟩ : ∃ n1, n1 = i.cfg.env.length := ⟨_, rfl⟩
 obtain ⟨n2, hn2⟩ : ∃ n2, n2 = i.cfg.ports.length := ⟨_, rfl⟩
 obtain ⟨n3, hn3⟩ : ∃ n3, n3 = i.cfg.labels.length := ⟨_, rfl⟩
 obtain ⟨n4, hn4⟩ : ∃ n4, n4 = i.cfg.cmd.length := ⟨_, rfl⟩
 obtain ⟨n5, hn5⟩ : ∃ n5, n5 = i.cfg.entry.length := ⟨_, rfl⟩
 obtain ⟨n6, hn6⟩ : ∃ n6, n6 = i.past.length := ⟨_, rfl⟩
 obtain ⟨n7, hn7⟩ : ∃ n7, n7 = i.diffs.length := ⟨_, rfl⟩
 obtain ⟨dir, hdir⟩ : ∃ dir, dir = i.cfg.dir := ⟨_, rfl⟩
 obtain ⟨usr, husr⟩ : ∃ usr, usr = i.cfg.user := ⟨_, rfl⟩
 have HD : Hid (dir = i.cfg.dir /\ usr = i.cfg.user) := Lib.hid ⟨hdir, husr⟩
 have HN : Hid (n1 = i.cfg.env.length /\ n2 = i.cfg.ports.length /\ n3 = i.cfg.labels.length /\ n4 = i.cfg.cmd.length /\ n5 = i.cfg.entry.length /\ n6 = i.past.length /\ n7 = i.diffs.length) := Lib.hid ⟨hn1, hn2, hn3, hn4, hn5, hn6, hn7⟩
 have HR := Lib.hid (And.intro r1 (And.intro r2 (And.intro r3 (And.intro r4 (And.intro r5 (And.intro r6 r7))))))
 have H32 := Lib.hid hd32
 have HF := Lib.hid hfew
 have HST := Lib.hid hst
 have hl6 := hfew.past
 have hl7 := hfew.diffs
 rw [<- hn6] at hl6
 rw [<- hn7] at hl7
 rw [<- hn1, <- hn2, <- hn3, <- hn4, <- hn5, <- hn6, <- hn7] at HR
 rw [<- hn1, <- hn2, <- hn3, <- hn4, <- hn5, <- hn6, <- hn7, <- hdir, <- husr] at HIM
 rw [<- hn1, <- hn2, <- hn3, <- hn4, <- hn5, <- hn6, <- hn7, <- hdir, <- husr]
 clear hn1 hn2 hn3 hn4 hn5 hn6 hn7 hdir husr r1 r2 r3 r4 r5 r6 r7 hfew hst hd32
 obtain ⟨b0, hb0⟩ : ∃ b0, b0 = w.heap.size := ⟨_, rfl⟩
 obtain ⟨wa, hwa⟩ : ∃ wa, wa = w.alloc (.cells #[.slice A1 n1 c1, .string ⟨dir.toArray⟩, .string ⟨usr.toArray⟩, .slice A2 n2 c2, .slice A3 n3 c3, .slice A4 n4 c4, .slice A5 n5 c5, .slice A6 n6 c6, .slice A7 n7 c7] 29) := ⟨_, rfl⟩
 have HBI : Hid (Blk wa b0 29 #[.slice A1 n1 c1, .string ⟨dir.toArray⟩, .string ⟨usr.toArray⟩, .slice A2 n2 c2, .slice A3 n3 c3, .slice A4 n4 c4, .slice A5 n5 c5, .slice A6 n6 c6, .slice A7 n7 c7]) := Lib.hid (by rw [hwa, hb0]; exact Blk.new _ _ _)
 have HWA : Hid (Below b0 w wa /\ wa.heap.size = b0 + 1) := Lib.hid (by rw [hwa, hb0]; exact ⟨(Below.refl _ _).alloc (Nat.le_refl _) _, by simp⟩)
 have HB0 : Hid (b0 = w.heap.size) := Lib.hid hb0
 rw [<- hb0] at HR
 have hif9 : (Tryz.prog.info? 29).map (·.size) = some 9 := by kernel_rfl
 have hrg : wa.rangeAt b0 0 (#[.slice A1 n1 c1, .string ⟨dir.toArray⟩, .string ⟨usr.toArray⟩, .slice A2 n2 c2, .slice A3 n3 c3, .slice A4 n4 c4, .slice A5 n5 c5, .slice A6 n6 c6, .slice A7 n7 c7] : Array Value).toList := fun j v hv => by
   rw [Nat.zero_add, HBI.out.cell, <- Array.getElem?_toList]; exact hv
 have HWR := Lib.hid (wrong_any i #[.slice A1 n1 c1, .string ⟨dir.toArray⟩, .string ⟨usr.toArray⟩, .slice A2 n2 c2, .slice A3 n3 c3, .slice A4 n4 c4, .slice A5 n5 c5, .slice A6 n6 c6, .slice A7 n7 c7] wa (by
   obtain ⟨B1, d1, B2, d2, B3, d3, B4, d4, B5, d5, B6, d6, B7, d7, e, q1, q2, q3, q4, q5, q6, q7, q8⟩ := HIM.out
   have hb := HWA.out.1
   have hs := HWA.out.2
   rw [<- hb0] at q1 q2 q3 q4 q5 q6 q7
   exact ⟨B1, d1, B2, d2, B3, d3, B4, d4, B5, d5, B6, d6, B7, d7, e, (q1.below hb).more (by omega), (q2.below hb).more (by omega), (q3.below hb).more (by omega), (q4.below hb).more (by omega), (q5.below hb).more (by omega), (q6.below hb).more (by omega), (q7.below hb).more (by omega), q8⟩) HF.out (HST.out.below (by rw [<- HB0.out]; exact HWA.out.1)))
 go_enter Tryz.func12, Tryz.ntmps12
 go_upto_region 1 with fail
 rw [<- hwa, <- hb0]
 clear hwa hb0
 go_wp2_with (refine wpList_load_mid rfl 29 _ rfl b0 0 rfl _ _ hrg Tryz.underlying29 rfl hif9 ?_)
 clear hrg hif9
 refine HWR.out.mono ?_
 rintro x w1 ⟨rfl, hb1⟩
 have HB1 := Lib.hid (HBI.out.below hb1 HBI.out.lt)
 have HW1 : Hid (Below b0 w w1 /\ b0 + 1 ≤ w1.heap.size) := Lib.hid ⟨HWA.out.1.trans (hb1.mono (by have := HWA.out.2; omega)), by have := hb1.size; have := HWA.out.2; omega⟩
 clear hb1 HWR HBI HWA HIM
 by_cases h0 : w0 i = 0
 . have HP0 := Lib.hid h0
   rw [h0, show errV 0 = Value.nilIface from rfl]
   clear h0
   obtain ⟨hsz, _⟩ := w0_zero HP0.out
   go_upto_region 5 with fail
   obtain ⟨bh, hbh⟩ : ∃ bh, bh = w1.heap.size := ⟨_, rfl⟩
   obtain ⟨w2, hw2⟩ : ∃ w2, w2 = (w1.alloc (.cells #[.int .i64 5, .int .i64 0, .string ⟨#[]⟩, .slice none 0 0, .slice none 0 0] 54)).alloc (.cells #[.int .i64 5, .int .i64 0, .string ⟨#[]⟩, .slice none 0 0, .slice none 0 0] 54) := ⟨_, rfl⟩
   have HBH : Hid (Blk w2 bh 54 #[.int .i64 5, .int .i64 0, .string ⟨#[]⟩, .slice none 0 0, .slice none 0 0]) := Lib.hid (by rw [hw2, hbh]; exact (Blk.new _ _ _).alloc _)
   have HBD : Hid (Blk w2 (bh + 1) 54 #[.int .i64 5, .int .i64 0, .string ⟨#[]⟩, .slice none 0 0, .slice none 0 0]) := Lib.hid (by
    have := Blk.new (w1.alloc (.cells #[.int .i64 5, .int .i64 0, .string ⟨#[]⟩, .slice none 0 0, .slice none 0 0] 54)) 54 #[.int .i64 5, .int .i64 0, .string ⟨#[]⟩, .slice none 0 0, .slice none 0 0]
    rw [hw2, hbh]; simpa using this)
   have HW2 : Hid (Below b0 w w2 /\ w2.heap.size = bh + 2 /\ b0 + 1 ≤ bh /\ Below bh w1 w2 /\ bh = w1.heap.size) := Lib.hid (by
    have h1 := HW1.out
    refine ⟨?_, by rw [hw2, hbh]; simp, by rw [hbh]; exact h1.2, ?_, hbh⟩
    . rw [hw2]; exact (h1.1.alloc (by omega) _).alloc (by simp; omega) _
    . rw [hw2, hbh]; exact ((Below.refl _ _).alloc (Nat.le_refl _) _).alloc (by simp) _)
   have HBI := Lib.hid (HB1.out.below HW2.out.2.2.2.1 (by have := HW2.out; omega))
   try rw [show w1.heap.size + 1 = bh + 1 by rw [hbh]]
   rw [<- hw2, <- hbh]
   clear hw2 hbh HB1 HW1
   have xi7 := HBI.out.cell 7
   obtain ⟨lp, hlp⟩ : ∃ lp, lp = i.past := ⟨_, rfl⟩
   have HLP : Hid (Reads w2 b0 2 A6 n6 (pastC lp) /\ lp.length = n6 /\ lp = i.past) := Lib.hid ⟨by rw [hlp]; exact HR.out.2.2.2.2.2.1.below HW2.out.1, by rw [hlp]; exact HN.out.2.2.2.2.2.1.symm, hlp⟩
   clear hlp
   go_wp2_with fail
   clear xi7
   go_loopw [26] (fun ix wr => ∃ (j : Nat) (hv : Value), j ≤ n6 /\ ix = .int .i64 j /\ Hid (Blk wr bh 54 #[.int .i64 5, .int .i64 0, .string ⟨#[]⟩, hv, .slice none 0 0]) /\ Hid (Blk wr (bh + 1) 54 #[.int .i64 5, .int .i64 0, .string ⟨#[]⟩, .slice none 0 0, .slice none 0 0]) /\ Hid (LV wr (bh + 2) ((lp.take j).map pastT) hv) /\ Hid (Below bh w2 wr /\ bh + 2 ≤ wr.heap.size)) (fun ix _ => n6 - (intOf ix).toNat)
   case atStart => exact ⟨0, _, by omega, rfl, HBH, HBD, Lib.hid (LV.nil _ _), Lib.hid ⟨Below.refl _ _, by rw [HW2.out.2.1]; exact Nat.le_refl _⟩⟩
   case round =>
    clear HBH HBD
    obtain ⟨j, hv, hj, rfl, HBH, HBD, HLV, HW⟩ := hrel
    by_cases hjl : j < n6
    . have hgx : lp[j]? = some (lp.getD j ([], false)) := by simp [List.getD, List.getElem?_eq_getElem (show j < lp.length by have := HLP.out.2.1; omega)]
      obtain ⟨ad, rfl, k0, k1⟩ := at_past (HLP.out.1.below (HW.out.1.mono (by have := HW2.out; omega))) HLP.out.2.1 hgx
      have HTK : Hid (lp.take (j + 1) = lp.take j ++ [lp.getD j ([], false)] /\ ((lp.take j).map pastT).length = j) := Lib.hid ⟨by rw [List.take_add_one, hgx]; rfl, by rw [List.length_map, List.length_take]; have := HLP.out.2.1; omega⟩
      generalize lp.getD j ([], false) = x at k0 k1 HTK
      obtain ⟨by_, em⟩ := x
      simp only at k0 k1 HTK
      clear hgx
      go_upto_region 9 with fail
      obtain ⟨bq, hbq⟩ : ∃ bq, bq = wr.heap.size := ⟨_, rfl⟩
      obtain ⟨wp, hwp⟩ : ∃ wp, wp = (wr.alloc (.cells #[.string ⟨by_.toArray⟩, .bool em] 101)).alloc (.cells #[.int .i64 0, .int .i64 0, .string ⟨#[]⟩, .slice none 0 0, .slice none 0 0] 104) := ⟨_, rfl⟩
      have HBQ : Hid (Blk wp bq 101 #[.string ⟨by_.toArray⟩, .bool em]) := Lib.hid (by rw [hwp, hbq]; exact (Blk.new _ _ _).alloc _)
      have HBO : Hid (Blk wp (bq + 1) 104 #[.int .i64 0, .int .i64 0, .string ⟨#[]⟩, .slice none 0 0, .slice none 0 0]) := Lib.hid (by
       have := Blk.new (wr.alloc (.cells #[.string ⟨by_.toArray⟩, .bool em] 101)) 104 #[.int .i64 0, .int .i64 0, .string ⟨#[]⟩, .slice none 0 0, .slice none 0 0]
       rw [hwp, hbq]; simpa using this)
      have HWp : Hid (Below bq wr wp /\ wp.heap.size = bq + 2 /\ bq = wr.heap.size /\ bh + 2 ≤ bq) := Lib.hid (by
       refine ⟨?_, by rw [hwp, hbq]; simp, hbq, by rw [hbq]; exact HW.out.2⟩
       rw [hwp, hbq]; exact ((Below.refl _ _).alloc (Nat.le_refl _) _).alloc (by simp) _)
      have HO0 := Lib.hid (OS.start (Bn := bq + 2) (fun b => bq + 2 ≤ b) (by omega) HBO.out (by omega) (by rw [HWp.out.2.1]; exact Nat.le_refl _) (fun b hb => by rw [HWp.out.2.1] at hb; exact hb))
      try rw [show wr.heap.size + 1 = bq + 1 by rw [hbq]]
      rw [<- hwp, <- hbq]
      clear hwp hbq k0 k1 HBO
      have p0 := HBQ.out.cell 0
      go_wp2_with fail
      clear p0
      refine (text_any by_ _).mono ?_
      rintro y w3 ⟨rfl, hb3⟩
      have HO1 := Lib.hid (HO0.out.below hb3)
      clear hb3 HO0
      go_wp2_with fail
      refine (os_put_text HO1.out (by simp) kBy by_).mono ?_
      rintro y w4 ⟨rfl, _, iv4, kv4, h4⟩
      have HO2 := Lib.hid h4
      clear h4 HO1
      have p1 := (HO2.out.blk HBQ.out (by omega) (by omega)).cell 1
      cases em with
      | true =>
       go_wp2_with fail
       refine (os_put_true HO2.out (by simp) kEmpty).mono ?_
       rintro y w5 ⟨rfl, _, iv5, kv5, h5⟩
       have HO3 := Lib.hid h5
       clear h5 HO2 p1
       have HPT : Hid (([] ++ [(kBy, tT by_)]) ++ [(kEmpty, tTrue)] = ((kBy, tT by_) :: if true = true then [(kEmpty, tTrue)] else [])) := Lib.hid rfl
       obtain ⟨PV, hPV⟩ : ∃ PV, PV = pastT (by_, true) := ⟨_, rfl⟩
       have HB5 : Hid (Below bq wr w5) := Lib.hid (HWp.out.1.trans (Kp.below ((HO3.out.hf.less (by omega)).mono (Nat.le_refl _) (fun k hk e => by omega))))
       have HVT : Hid (VT w5 (bq + 2) PV #[.int .i64 6, .int .i64 0, .string ⟨#[]⟩, iv5, kv5]  ) := Lib.hid (by
         have h1 := HO3.out.vt (B0 := bq + 2) (Nat.le_refl _) (fun _ h => h) (by simp)
         rw [HPT.out] at h1
         rw [hPV]; exact h1)
       have HPV := Lib.hid hPV
       clear hPV
       obtain ⟨kd, hbo, hk6, _⟩ := HO3.out.ho
       obtain rfl : kd = 6 := hk6 (by simp)
       have HLV5 := Lib.hid (HLV.out.below (by rw [<- HWp.out.2.2.1]; exact HB5.out))
       have HBH5 := Lib.hid (HBH.out.below HB5.out (by have := HWp.out; omega))
       have HBD5 := Lib.hid (HBD.out.below HB5.out (by have := HWp.out; omega))
       have HW5 : Hid (Below bh w2 w5 /\ bh + 2 ≤ w5.heap.size /\ bq + 2 ≤ w5.heap.size) := Lib.hid ⟨HW.out.1.trans (HB5.out.mono (B' := bh) (by have := HWp.out; omega)), by have := HO3.out.size; have := HWp.out; omega, HO3.out.size⟩
       have HOWN : Hid (∀ b, hv.ownBlock = some b -> b < bq + 2) := Lib.hid fun b e => by
         obtain ⟨S, vs, ho, _⟩ := HLV.out
         have := (own_lt ho e).2
         have := HWp.out
         omega
       obtain ⟨A9, c9, eiv⟩ := HLV5.out.form
       rw [HTK.out.2] at eiv
       subst eiv
       obtain ⟨S, vs, ho, ht, hS⟩ := HLV5.out
       have HO := Lib.hid (show w5.ownsRow (bh + 2) 54 5 (.slice A9 j c9) j vs by rw [HTK.out.2] at ho; exact ho)
       have HT := Lib.hid ht
       have HS := Lib.hid hS
       have HBOX := Lib.hid hbo
       clear ho ht hS hk6 HLV HLV5 HBH HBD HW
       have x0 := hbo.cell 0
       have x1 := hbo.cell 1
       have x2 := hbo.cell 2
       have x3 := hbo.cell 3
       have x4 := hbo.cell 4
       have z3 := HBH5.out.cell 3
       clear hbo
       go_wp2_with (at_builtin; go_loud (refine wpList_append_any _ rfl _ _ 52 rfl (bh + 2) 54 j0 _ 5 80 Tryz.underlying52 hjI hy0 hy1 hy2 rfl (by decide) (.slice A9 j c9) j vs rfl (World.ownsRow.alloc HO.out _) (w5.heap.size + 1) (some ⟨w5.heap.size, 0, none⟩) 1 1 [.int .i64 6, .int .i64 0, .string ⟨#[]⟩, iv5, kv5] rfl ((Reads.of_block (heap_alloc_new _ _) rfl).more (by simp)) HVT.out.one (by unfold maxLen; omega) (by omega) (by have := HW5.out; simp; omega) ?_; intro v6 w6 q1 q2 q3; obtain ⟨A6x, c6x, e6, _⟩ := own_readsN q1; subst e6; have HG6 := Lib.hid q1; have HH6 := Lib.hid q2; have HJ6 := Lib.hid q3; have HBH6 : Hid (Blk w6 bh 54 #[.int .i64 5, .int .i64 0, .string ⟨#[]⟩, .slice A9 j c9, .slice none 0 0]) := Lib.hid ((HBH5.out.alloc _).grown q2 (fun e => by have := (own_lt HO.out e.symm).1; omega)); have k3 := HBH6.out.cell 3; have l3 := HBH6.out.frozen 3; clear q1 q2 q3))
       obtain ⟨wq, hwq⟩ : ∃ wq, wq = w5.alloc (.cells #[.int .i64 6, .int .i64 0, .string ⟨#[]⟩, iv5, kv5] 54) := ⟨_, rfl⟩
       have hbq5 : Below w5.heap.size w5 wq := by rw [hwq]; exact (Below.refl _ _).alloc (Nat.le_refl _) _
       rw [<- hwq] at HH6
       have HBD6 : Hid (Blk w6 (bh + 1) 54 #[.int .i64 5, .int .i64 0, .string ⟨#[]⟩, .slice none 0 0, .slice none 0 0]) := Lib.hid ((HBD5.out.below hbq5 HBD5.out.lt).grown HH6.out (fun e => by have := (own_lt HO.out e.symm).1; omega))
       have HLV6 : Hid (LV w6 (bh + 2) ((lp.take (j + 1)).map pastT) (.slice A6x (j + 1) c6x)) := Lib.hid (by
         rw [HTK.out.1, List.map_append, List.map_cons, List.map_nil, <- HPV.out]
         refine LV.push (B1 := bq + 2) (HT.out.kept fun p hp => hbq5.cell (HS.out _ hp).2.1) (fun b hb => ⟨(HS.out b hb).1, Nat.lt_of_lt_of_le (HS.out b hb).2.1 hbq5.size, (HS.out b hb).2.2⟩) (VT.below HVT.out hbq5) (by have := HWp.out; omega) (fun b e => ?_) (by rw [HTK.out.2]; exact HG6.out) HH6.out (by rw [hwq]; exact HJ6.out)
         exact HOWN.out b e)
       have HW6 : Hid (Below bh w2 w6 /\ bh + 2 ≤ w6.heap.size) := Lib.hid ⟨(HW5.out.1.trans (hbq5.mono (by have := HW5.out; omega))).grown HH6.out (by have := HW5.out; have := hbq5.size; omega) (fun g e => by have := (own_lt HO.out e).1; omega), by have := HW5.out; have := hbq5.size; have := HH6.out.size; omega⟩
       refine ⟨⟨j + 1, .slice A6x (j + 1) c6x, by omega, by push_cast; rfl, Lib.hid (HBH6.out.set_ 3 _), Lib.hid (HBD6.out.far (by show bh + 1 ≠ bh; omega) _), Lib.hid (HLV6.out.kept (fun b hb _ => Below.heap_setCell w6 ⟨bh, 3, none⟩ _ b (by show b ≠ bh; omega)) (by simp)), Lib.hid ⟨Below.setCell HW6.out.1 (Nat.le_refl _) _, by simp; exact HW6.out.2⟩⟩, ?_⟩
       show n6 - ((j : Int) + 1).toNat < n6 - ((j : Int)).toNat
       omega
      | false =>
       go_upto_region 12 with fail
       clear p1
       obtain ⟨w5, hw5⟩ : ∃ w5, w5 = w4 := ⟨_, rfl⟩
       subst hw5
       obtain ⟨iv5, hiv5⟩ : ∃ iv5, iv5 = iv4 := ⟨_, rfl⟩
       obtain ⟨kv5, hkv5⟩ : ∃ kv5, kv5 = kv4 := ⟨_, rfl⟩
       subst hiv5
       subst hkv5
       have HO3 := HO2
       have HPT : Hid ([] ++ [(kBy, tT by_)] = ((kBy, tT by_) :: if false = true then [(kEmpty, tTrue)] else [])) := Lib.hid rfl
       obtain ⟨PV, hPV⟩ : ∃ PV, PV = pastT (by_, false) := ⟨_, rfl⟩
       have HB5 : Hid (Below bq wr w5) := Lib.hid (HWp.out.1.trans (Kp.below ((HO3.out.hf.less (by omega)).mono (Nat.le_refl _) (fun k hk e => by omega))))
       have HVT : Hid (VT w5 (bq + 2) PV #[.int .i64 6, .int .i64 0, .string ⟨#[]⟩, iv5, kv5]  ) := Lib.hid (by
         have h1 := HO3.out.vt (B0 := bq + 2) (Nat.le_refl _) (fun _ h => h) (by simp)
         rw [HPT.out] at h1
         rw [hPV]; exact h1)
       have HPV := Lib.hid hPV
       clear hPV
       obtain ⟨kd, hbo, hk6, _⟩ := HO3.out.ho
       obtain rfl : kd = 6 := hk6 (by simp)
       have HLV5 := Lib.hid (HLV.out.below (by rw [<- HWp.out.2.2.1]; exact HB5.out))
       have HBH5 := Lib.hid (HBH.out.below HB5.out (by have := HWp.out; omega))
       have HBD5 := Lib.hid (HBD.out.below HB5.out (by have := HWp.out; omega))
       have HW5 : Hid (Below bh w2 w5 /\ bh + 2 ≤ w5.heap.size /\ bq + 2 ≤ w5.heap.size) := Lib.hid ⟨HW.out.1.trans (HB5.out.mono (B' := bh) (by have := HWp.out; omega)), by have := HO3.out.size; have := HWp.out; omega, HO3.out.size⟩
       have HOWN : Hid (∀ b, hv.ownBlock = some b -> b < bq + 2) := Lib.hid fun b e => by
         obtain ⟨S, vs, ho, _⟩ := HLV.out
         have := (own_lt ho e).2
         have := HWp.out
         omega
       obtain ⟨A9, c9, eiv⟩ := HLV5.out.form
       rw [HTK.out.2] at eiv
       subst eiv
       obtain ⟨S, vs, ho, ht, hS⟩ := HLV5.out
       have HO := Lib.hid (show w5.ownsRow (bh + 2) 54 5 (.slice A9 j c9) j vs by rw [HTK.out.2] at ho; exact ho)
       have HT := Lib.hid ht
       have HS := Lib.hid hS
       have HBOX := Lib.hid hbo
       clear ho ht hS hk6 HLV HLV5 HBH HBD HW
       have x0 := hbo.cell 0
       have x1 := hbo.cell 1
       have x2 := hbo.cell 2
       have x3 := hbo.cell 3
       have x4 := hbo.cell 4
       have z3 := HBH5.out.cell 3
       clear hbo
       go_wp2_with (at_builtin; go_loud (refine wpList_append_any _ rfl _ _ 52 rfl (bh + 2) 54 j0 _ 5 80 Tryz.underlying52 hjI hy0 hy1 hy2 rfl (by decide) (.slice A9 j c9) j vs rfl (World.ownsRow.alloc HO.out _) (w5.heap.size + 1) (some ⟨w5.heap.size, 0, none⟩) 1 1 [.int .i64 6, .int .i64 0, .string ⟨#[]⟩, iv5, kv5] rfl ((Reads.of_block (heap_alloc_new _ _) rfl).more (by simp)) HVT.out.one (by unfold maxLen; omega) (by omega) (by have := HW5.out; simp; omega) ?_; intro v6 w6 q1 q2 q3; obtain ⟨A6x, c6x, e6, _⟩ := own_readsN q1; subst e6; have HG6 := Lib.hid q1; have HH6 := Lib.hid q2; have HJ6 := Lib.hid q3; have HBH6 : Hid (Blk w6 bh 54 #[.int .i64 5, .int .i64 0, .string ⟨#[]⟩, .slice A9 j c9, .slice none 0 0]) := Lib.hid ((HBH5.out.alloc _).grown q2 (fun e => by have := (own_lt HO.out e.symm).1; omega)); have k3 := HBH6.out.cell 3; have l3 := HBH6.out.frozen 3; clear q1 q2 q3))
       obtain ⟨wq, hwq⟩ : ∃ wq, wq = w5.alloc (.cells #[.int .i64 6, .int .i64 0, .string ⟨#[]⟩, iv5, kv5] 54) := ⟨_, rfl⟩
       have hbq5 : Below w5.heap.size w5 wq := by rw [hwq]; exact (Below.refl _ _).alloc (Nat.le_refl _) _
       rw [<- hwq] at HH6
       have HBD6 : Hid (Blk w6 (bh + 1) 54 #[.int .i64 5, .int .i64 0, .string ⟨#[]⟩, .slice none 0 0, .slice none 0 0]) := Lib.hid ((HBD5.out.below hbq5 HBD5.out.lt).grown HH6.out (fun e => by have := (own_lt HO.out e.symm).1; omega))
       have HLV6 : Hid (LV w6 (bh + 2) ((lp.take (j + 1)).map pastT) (.slice A6x (j + 1) c6x)) := Lib.hid (by
         rw [HTK.out.1, List.map_append, List.map_cons, List.map_nil, <- HPV.out]
         refine LV.push (B1 := bq + 2) (HT.out.kept fun p hp => hbq5.cell (HS.out _ hp).2.1) (fun b hb => ⟨(HS.out b hb).1, Nat.lt_of_lt_of_le (HS.out b hb).2.1 hbq5.size, (HS.out b hb).2.2⟩) (VT.below HVT.out hbq5) (by have := HWp.out; omega) (fun b e => ?_) (by rw [HTK.out.2]; exact HG6.out) HH6.out (by rw [hwq]; exact HJ6.out)
         exact HOWN.out b e)
       have HW6 : Hid (Below bh w2 w6 /\ bh + 2 ≤ w6.heap.size) := Lib.hid ⟨(HW5.out.1.trans (hbq5.mono (by have := HW5.out; omega))).grown HH6.out (by have := HW5.out; have := hbq5.size; omega) (fun g e => by have := (own_lt HO.out e).1; omega), by have := HW5.out; have := hbq5.size; have := HH6.out.size; omega⟩
       refine ⟨⟨j + 1, .slice A6x (j + 1) c6x, by omega, by push_cast; rfl, Lib.hid (HBH6.out.set_ 3 _), Lib.hid (HBD6.out.far (by show bh + 1 ≠ bh; omega) _), Lib.hid (HLV6.out.kept (fun b hb _ => Below.heap_setCell w6 ⟨bh, 3, none⟩ _ b (by show b ≠ bh; omega)) (by simp)), Lib.hid ⟨Below.setCell HW6.out.1 (Nat.le_refl _) _, by simp; exact HW6.out.2⟩⟩, ?_⟩
       show n6 - ((j : Int) + 1).toNat < n6 - ((j : Int)).toNat
       omega
    . obtain rfl : j = n6 := by omega
      obtain ⟨we, hwe⟩ : ∃ we, we = wr := ⟨_, rfl⟩
      subst hwe
      obtain ⟨PL, hPL⟩ : ∃ PL, PL = (lp.take j).map pastT := ⟨_, rfl⟩
      rw [<- hPL] at HLV
      have HPL : Hid (PL = i.past.map pastT /\ PL.length = j) := Lib.hid (by
       rw [hPL, <- HLP.out.2.1, List.take_length, HLP.out.2.2, List.length_map, <- HLP.out.2.2]; exact ⟨rfl, rfl⟩)
      have HLH := Lib.hid (HLV.out.vt (by rw [HPL.out.2]; omega))
      have HBI1 := Lib.hid (HBI.out.below ((HW.out.1.mono (by have := HW2.out; omega) : Below (b0 + 1) w2 we)) (by omega))
      obtain ⟨BE, hBE⟩ : ∃ BE, BE = we.heap.size := ⟨_, rfl⟩
      have HBE : Hid (BE = we.heap.size /\ bh + 2 ≤ BE) := Lib.hid ⟨hBE, by rw [hBE]; exact HW.out.2⟩
      clear hPL hBE HLV
      have xi8 := HBI1.out.cell 8
      obtain ⟨ld, hld⟩ : ∃ ld, ld = i.diffs := ⟨_, rfl⟩
      have HLD : Hid (Reads w2 b0 32 A7 n7 (digC ld) /\ ld.length = n7 /\ ld = i.diffs /\ ∀ d ∈ ld, d.length = 32) := Lib.hid ⟨by rw [hld]; exact HR.out.2.2.2.2.2.2.below HW2.out.1, by rw [hld]; exact HN.out.2.2.2.2.2.2.symm, hld, by rw [hld]; exact H32.out⟩
      clear hld
      go_wp2_with fail
      clear xi8
      go_loopw [49] (fun ix wr => ∃ (q : Nat) (dv : Value), q ≤ n7 /\ ix = .int .i64 q /\ Hid (Blk wr (bh + 1) 54 #[.int .i64 5, .int .i64 0, .string ⟨#[]⟩, dv, .slice none 0 0]) /\ Hid (LV wr BE ((ld.take q).map fun d => tT (Plain.digText d)) dv) /\ Hid (Kp BE (fun b => b = bh + 1) we wr)) (fun ix _ => n7 - (intOf ix).toNat)
      case atStart => exact ⟨0, _, by omega, rfl, HBD, Lib.hid (LV.nil _ _), Lib.hid (Kp.refl _ _ _)⟩
      case round =>
       clear HBD
       obtain ⟨q, dv, hq, rfl, HBD, HLV, HK⟩ := hrel
       by_cases hql : q < n7
       . have hgx : ld[q]? = some (ld.getD q []) := by simp [List.getD, List.getElem?_eq_getElem (show q < ld.length by have := HLD.out.2.1; omega)]
         have hx32 := HLD.out.2.2.2 _ (List.mem_of_getElem? hgx)
         have HBB : Hid (Below b0 w2 wr) := Lib.hid ((HW.out.1.mono (by have := HW2.out; omega)).trans (Kp.below (HK.out.mono (by have := HBE.out; have := HW2.out; omega) (fun k hk e => by have := HW2.out; omega))))
         obtain ⟨ad, rfl, _, hcs⟩ := at_flat (f := Lib.byteCells) (fun d hd => by rw [bytes_len]; exact HLD.out.2.2.2 d hd) (HLD.out.1.below HBB.out) HLD.out.2.1 hgx
         have HTK : Hid (ld.take (q + 1) = ld.take q ++ [ld.getD q []] /\ ((ld.take q).map (fun d => tT (Plain.digText d))).length = q) := Lib.hid ⟨by rw [List.take_add_one, hgx]; rfl, by rw [List.length_map, List.length_take]; have := HLD.out.2.1; omega⟩
         generalize ld.getD q [] = x at hcs HTK hx32
         have HX32 := Lib.hid hx32
         have hif : (Tryz.prog.info? 40).map (·.size) = some (Lib.byteCells x).length := by rw [bytes_len, hx32]; kernel_rfl
         have hone : (Lib.byteCells x).toArray.all (·.oneCell') = true := by simp [Lib.byteCells, Value.oneCell']
         have hsz32 : (Lib.byteCells x).length = 32 := by rw [bytes_len]; exact hx32
         clear hgx hx32
         go_upto_region 17 with (first | refine wpList_load_any rfl 40 _ rfl _ rfl (Lib.byteCells x) _ hcs Tryz.underlying40 rfl hif ?_ | refine wpList_store_row rfl 40 _ _ rfl _ _ rfl rfl 40 _ (heap_alloc_new _ _) (by simpa using hif) (by simp [hsz32]) hone ?_)
         rw [alloc_setRow]
         try simp only [Act.put]
         obtain ⟨wp, hwp⟩ : ∃ wp, wp = wr.alloc (.cells (Lib.byteCells x).toArray 40) := ⟨_, rfl⟩
         have hb1 : Below wr.heap.size wr wp := by rw [hwp]; exact (Below.refl _ _).alloc (Nat.le_refl _) _
         obtain ⟨bp, hbp⟩ : ∃ bp, bp = wr.heap.size := ⟨_, rfl⟩
         have HBP : Hid (Blk wp bp 40 (Lib.byteCells x).toArray) := Lib.hid (by rw [hwp, hbp]; exact Blk.new _ _ _)
         have HBX : Hid (wp.heap.size = bp + 1 /\ BE ≤ bp) := Lib.hid (by rw [hwp, hbp]; exact ⟨by simp, by have := HK.out.size; have := HBE.out; omega⟩)
         have HBDp := Lib.hid (HBD.out.below hb1 HBD.out.lt)
         have HLVp := Lib.hid (HLV.out.below hb1)
         have HKp := Lib.hid (HK.out.step hb1 (by have := HK.out.size; have := HBE.out; omega))
         rw [<- hwp, <- hbp]
         clear hwp hbp hb1 hcs hif hone HBD HLV HK HBB hsz32
         obtain ⟨A9, c9, eiv⟩ := HLVp.out.form
         rw [HTK.out.2] at eiv
         subst eiv
         obtain ⟨S, vs, ho, ht, hS⟩ := HLVp.out
         have HO : Hid (wp.ownsRow BE 54 5 (.slice A9 q c9) q vs) := Lib.hid (by rw [HTK.out.2] at ho; exact ho)
         have HT := Lib.hid ht
         have HS := Lib.hid hS
         clear ho ht hS HLVp
         have hrp : wp.rangeAt bp 0 (Lib.byteCells x) := fun jj v hv => by rw [Nat.zero_add, HBP.out.cell]; simpa using hv
         refine wp_region_R (S := (fun wy => wy.cell? ⟨bh + 1, 3, none⟩ = some (.slice A9 q c9) /\ wy.rangeAt bp 0 (Lib.byteCells x))) 8 (by kernel_rfl) ⟨HBDp.out.cell 3, hrp⟩ (fun hHeld => ?_)
         refine tkR 0 (hS := hHeld) (h := ?_)
         try simp only [Act.put, List.setIfInBounds_toArray, List.set_cons_zero, List.set_cons_succ]
         refine tkR 1 (hS := hHeld) (h := ?_)
         try simp only [Act.put, List.setIfInBounds_toArray, List.set_cons_zero, List.set_cons_succ]
         refine wpAnyR_take (i := 2) (by kernel_rfl) (by simp only [List.getElem?_toArray, List.getElem?_cons_succ, List.getElem?_cons_zero]; rfl) (by kernel_rfl) (by kernel_rfl) (by kernel_rfl) (by exact fun _ _ _ h => h) (yieldsIf_load_mid (by rfl) _ _ rfl _ _ rfl (Lib.byteCells x) _ (fun _ h => h.2) Tryz.underlying40 rfl (by rw [bytes_len, HX32.out]; kernel_rfl)) hHeld ?_
         try simp only [Act.put, List.setIfInBounds_toArray, List.set_cons_zero, List.set_cons_succ]
         refine oneR 3 (fun K hK => ?_)
         rw [if_pos (by rfl)]
         go_simp
         refine (Text_any x HX32.out _).mono ?_
         rintro y w3 ⟨rfl, hb3⟩
         have hb3 : Below wp.heap.size wp w3 := ((Below.refl wp.heap.size wp).drew).trans hb3
         have HBD3 := Lib.hid (HBDp.out.below hb3 HBDp.out.lt)
         have HBP3 := Lib.hid (HBP.out.below hb3 HBP.out.lt)
         have hrk : ∀ wy, Blk wy bp 40 (Lib.byteCells x).toArray -> wy.rangeAt bp 0 (Lib.byteCells x) := fun wy h jj v hv => by rw [Nat.zero_add, h.cell]; simpa using hv
         have HRK := Lib.hid hrk
         have HB3 := Lib.hid hb3
         refine hK.out _ _ (fun _ => ⟨HBD3.out.cell 3, HRK.out _ HBP3.out⟩) (fun _ => ?_)
         clear hK hb3 hrp hrk hHeld
         try simp only [Act.put, List.setIfInBounds_toArray, List.set_cons_zero, List.set_cons_succ]
         refine oneR 4 (fun K hK => ?_)
         rw [if_pos (by rfl)]
         go_simp
         refine (text_any (Plain.digText x) _).mono ?_
         rintro y w4 ⟨rfl, hb4⟩
         have HBD4 := Lib.hid (HBD3.out.below hb4 HBD3.out.lt)
         have HBP4 := Lib.hid (HBP3.out.below hb4 HBP3.out.lt)
         have HB4 : Hid (Below wp.heap.size wp w4) := Lib.hid (HB3.out.trans (hb4.mono HB3.out.size))
         refine hK.out _ _ (fun _ => ⟨HBD4.out.cell 3, HRK.out _ HBP4.out⟩) (fun _ => ?_)
         clear hK hb4 HBD3 HBP3 HB3
         try simp only [Act.put, List.setIfInBounds_toArray, List.set_cons_zero, List.set_cons_succ]
         refine oneR 5 (fun K hK => ?_)
         rw [if_pos (by rfl)]
         go_simp
         obtain ⟨wq, hwq⟩ : ∃ wq, wq = w4.alloc (.cells #[.int .i64 4, .int .i64 0, .string ⟨(Plain.digText x).toArray⟩, .slice none 0 0, .slice none 0 0] 54) := ⟨_, rfl⟩
         have hbq : Below w4.heap.size w4 wq := by rw [hwq]; exact (Below.refl _ _).alloc (Nat.le_refl _) _
         have HG : Hid (wq.heap[w4.heap.size]? = some (.cells #[.int .i64 4, .int .i64 0, .string ⟨(Plain.digText x).toArray⟩, .slice none 0 0, .slice none 0 0] 54) /\ wq.heap.size = w4.heap.size + 1) := Lib.hid (by rw [hwq]; exact ⟨heap_alloc_new _ _, by simp⟩)
         have HBDq := Lib.hid (HBD4.out.below hbq HBD4.out.lt)
         have HBPq := Lib.hid (HBP4.out.below hbq HBP4.out.lt)
         have HBq : Hid (Below wp.heap.size wp wq) := Lib.hid (HB4.out.trans (hbq.mono HB4.out.size))
         refine hK.out _ _ (fun _ => by (try rw [<- hwq]); exact ⟨HBDq.out.cell 3, HRK.out _ HBPq.out⟩) (fun _ => ?_)
         clear hK
         (try rw [<- hwq])
         have HSZ4 : Hid (wp.heap.size ≤ w4.heap.size) := Lib.hid HB4.out.size
         clear hwq hbq HBD4 HBP4 HB4
         try simp only [Act.put, List.setIfInBounds_toArray, List.set_cons_zero, List.set_cons_succ]
         have HOq := Lib.hid (own_kept HO.out HBq.out)
         refine oneR 6 (fun K hK => ?_)
         rw [if_pos (by rfl)]
         refine wp_append_any (P := Tryz.prog) _ _ _ 52 rfl BE 54 j0 _ 5 80 Tryz.underlying52 hjI hy0 hy1 hy2 rfl (by decide) (.slice A9 q c9) q vs rfl HOq.out wq.heap.size (some ⟨w4.heap.size, 0, none⟩) 1 1 [.int .i64 4, .int .i64 0, .string ⟨(Plain.digText x).toArray⟩, .slice none 0 0, .slice none 0 0] rfl (Reads.of_block HG.out.1 rfl) (by simp [Value.oneCell']) (by unfold maxLen; omega) (by omega) (by have := HBX.out; have := HBq.out.size; omega) ?_
         intro v2 w5 g1 g2 g3
         obtain ⟨A8, c8, e2, _⟩ := own_readsN g1
         subst e2
         have HLV2 : Hid (LV w5 BE ((ld.take (q + 1)).map fun d => tT (Plain.digText d)) (.slice A8 (q + 1) c8)) := Lib.hid (by
           rw [HTK.out.1, List.map_append, List.map_cons, List.map_nil]
           refine LV.push (B1 := wq.heap.size) (HT.out.kept fun p hp => HBq.out.cell (HS.out _ hp).2.1) (fun b hb => ⟨(HS.out b hb).1, Nat.lt_of_lt_of_le (HS.out b hb).2.1 HBq.out.size, (HS.out b hb).2.2⟩) (VT.text wq wq.heap.size (Plain.digText x)) (by have := HBX.out; have := HBq.out.size; omega) (fun b e => (own_lt HOq.out e).2) (by rw [HTK.out.2]; exact g1) g2 g3)
         have HBD5 := Lib.hid (HBDq.out.grown g2 (fun e => by have := (own_lt HOq.out e.symm).1; have := HBE.out; omega))
         have HBP5 : Hid (Blk w5 bp 40 (Lib.byteCells x).toArray) := Lib.hid (HBPq.out.grown g2 (fun e => own_blk_ne HOq.out HBPq.out (by decide) e.symm))
         have HK5 : Hid (Kp BE (fun b => b = bh + 1) we w5) := Lib.hid ((HKp.out.step HBq.out (by have := HBX.out; omega)).grown g2 (by have := HBX.out; have := HBq.out.size; omega) (fun g e => .inl (own_lt HOq.out e).1))
         refine hK.out _ _ (fun _ => ⟨HBD5.out.cell 3, HRK.out _ HBP5.out⟩) (fun _ => ?_)
         clear hK g1 g2 g3
         try simp only [Act.put, List.setIfInBounds_toArray, List.set_cons_zero, List.set_cons_succ]
         have k3 := HBD5.out.cell 3
         have hSx : w5.cell? ⟨bh + 1, 3, none⟩ = some (.slice A9 q c9) /\ w5.rangeAt bp 0 (Lib.byteCells x) := ⟨HBD5.out.cell 3, HRK.out _ HBP5.out⟩
         refine tkR 7 (hS := hSx) (h := ?_)
         try simp only [Act.put, List.setIfInBounds_toArray, List.set_cons_zero, List.set_cons_succ]
         refine oneR 8 (fun K hK => ?_)
         rw [if_pos (by rfl)]
         have l3 := HBD5.out.frozen 3
         go_simp
         refine hK.out _ _ (fun h => absurd rfl h) (fun _ => ?_)
         clear hK k3 l3 hSx
         try simp only [Act.put]
         refine wpAnyR_done (by kernel_rfl) ?_ _
         go_wp2_with fail
         refine ⟨⟨q + 1, .slice A8 (q + 1) c8, by omega, by push_cast; rfl, Lib.hid (HBD5.out.set_ 3 _), Lib.hid (HLV2.out.kept (fun b hb _ => Below.heap_setCell w5 ⟨bh + 1, 3, none⟩ _ b (by show b ≠ bh + 1; have := HBE.out; omega)) (by simp)), Lib.hid (Kp.setCell HK5.out (.inr rfl) _)⟩, ?_⟩
         show n7 - ((q : Int) + 1).toNat < n7 - ((q : Int)).toNat
         omega
       . obtain rfl : q = n7 := by omega
         obtain ⟨wf, hwf⟩ : ∃ wf, wf = wr := ⟨_, rfl⟩
         subst hwf
         obtain ⟨DV, hDV⟩ : ∃ DV, DV = (ld.take q).map (fun d => tT (Plain.digText d)) := ⟨_, rfl⟩
         rw [<- hDV] at HLV
         have HDV : Hid (tL DV = tTexts (i.diffs.map Plain.digText) /\ DV.length = q) := Lib.hid (by
           rw [hDV, <- HLD.out.2.1, List.take_length, HLD.out.2.2.1]
           refine ⟨?_, by rw [List.length_map]⟩
           unfold tTexts
           rw [List.map_map]; rfl)
         have HLDV := Lib.hid (HLV.out.vt (by rw [HDV.out.2]; omega))
         obtain ⟨Ad, cd, eiv⟩ := HLV.out.form
         rw [HDV.out.2] at eiv
         subst eiv
         have HFR : Hid (we.heap.size ≤ wf.heap.size /\ ∀ b, b < BE -> b ≠ bh + 1 -> wf.heap[b]? = we.heap[b]?) := Lib.hid ⟨HK.out.size, fun b h1 h2 => HK.out.block b h1 h2⟩
         have HBHf := Lib.hid (HK.out.blk HBH.out (by have := HBE.out; omega) (by omega))
         have HBIf := Lib.hid (HK.out.blk HBI1.out (by have := HBE.out; have := HW2.out; omega) (by have := HW2.out; omega))
         have HBWf : Hid (Below b0 w wf) := Lib.hid ((HW2.out.1.trans (HW.out.1.mono (by have := HW2.out; omega))).trans (Kp.below (HK.out.mono (by have := HBE.out; have := HW2.out; omega) (fun k hk e => by have := HW2.out; omega))))
         clear hDV HLV HK HBH HBI1 HBI
         go_upto_region 21 with fail
         obtain ⟨bo, hbo⟩ : ∃ bo, bo = wf.heap.size := ⟨_, rfl⟩
         obtain ⟨wg, hwg⟩ : ∃ wg, wg = (wf.alloc (.cells #[.int .i64 0, .int .i64 0, .string ⟨#[]⟩, .slice none 0 0, .slice none 0 0] 104)).alloc (.cells #[.int .i64 0, .int .i64 0, .string ⟨#[]⟩, .slice none 0 0, .slice none 0 0] 104) := ⟨_, rfl⟩
         have HBO : Hid (Blk wg bo 104 #[.int .i64 0, .int .i64 0, .string ⟨#[]⟩, .slice none 0 0, .slice none 0 0]) := Lib.hid (by rw [hwg, hbo]; exact (Blk.new _ _ _).alloc _)
         have HBR : Hid (Blk wg (bo + 1) 104 #[.int .i64 0, .int .i64 0, .string ⟨#[]⟩, .slice none 0 0, .slice none 0 0]) := Lib.hid (by
           have := Blk.new (wf.alloc (.cells #[.int .i64 0, .int .i64 0, .string ⟨#[]⟩, .slice none 0 0, .slice none 0 0] 104)) 104 #[.int .i64 0, .int .i64 0, .string ⟨#[]⟩, .slice none 0 0, .slice none 0 0]
           rw [hwg, hbo]; simpa using this)
         have HWG : Hid (Below bo wf wg /\ wg.heap.size = bo + 2 /\ bo = wf.heap.size /\ BE ≤ bo /\ bh + 2 ≤ BE /\ b0 + 1 ≤ bh) := Lib.hid (by
           refine ⟨?_, by rw [hwg, hbo]; simp, hbo, ?_, HBE.out.2, HW2.out.2.2.1⟩
           . rw [hwg, hbo]; exact ((Below.refl _ _).alloc (Nat.le_refl _) _).alloc (by simp) _
           . rw [hbo, HBE.out.1]; exact HFR.out.1)
         have HBHg := Lib.hid (HBHf.out.below HWG.out.1 (by have := HWG.out; omega))
         have HBDg := Lib.hid (HBD.out.below HWG.out.1 (by have := HWG.out; omega))
         have HBIg := Lib.hid (HBIf.out.below HWG.out.1 (by have := HWG.out; omega))
         have HBWg : Hid (Below b0 w wg) := Lib.hid (HBWf.out.trans (HWG.out.1.mono (by have := HWG.out; omega)))
         have HR0 := Lib.hid (OS.start (ob := bo + 1) (Bn := bo + 2) (fun b => BE ≤ b /\ b ≠ bo /\ b ≠ bo + 1) (by omega) HBR.out (by omega) (by rw [HWG.out.2.1]; exact Nat.le_refl _) (fun b hb => by have := HWG.out; omega))
         try rw [show wf.heap.size + 1 = bo + 1 by rw [hbo]]
         rw [<- hwg, <- hbo]
         clear hwg hbo HBHf HBD HBIf HBWf HBR
         go_wp2_with fail
         refine (text_any vType _).mono ?_
         rintro x1 w3 ⟨rfl, hb3⟩
         have HR1 := Lib.hid (HR0.out.below hb3)
         clear hb3 HR0
         go_wp2_with fail
         refine (os_put_text HR1.out (by simp) kType vType).mono ?_
         rintro x2 w4 ⟨rfl, _, iv4, kv4, h4⟩
         have HR2 := Lib.hid h4
         clear h4 HR1
         have HBD4 := Lib.hid (HR2.out.blk HBDg.out (by have := HWG.out; omega) (by have := HWG.out; omega))
         have x0 := HBD4.out.cell 0
         have x1 := HBD4.out.cell 1
         have x2 := HBD4.out.cell 2
         have x3 := HBD4.out.cell 3
         have x4 := HBD4.out.cell 4
         go_wp2_with fail
         clear x0 x1 x2 x3 x4
         refine (os_put_old (v := tL DV) (jv := .slice Ad q cd) (jk := .slice none 0 0) HR2.out (by simp) kDiffs HLDV.out (fun b h1 h2 => ?_)).mono ?_
         . have := HWG.out
           exact ⟨⟨h1, by omega, by omega⟩, by omega, by omega, HWG.out.1.block b (by omega)⟩
         rintro x5 w5 ⟨rfl, _, iv5, kv5, h5⟩
         rw [HDV.out.1] at h5
         have HR3 := Lib.hid h5
         clear h5 HR2 HBD4 HLDV
         have HBO5 := Lib.hid (HR3.out.blk HBO.out (by omega) (by omega))
         have HBH5 := Lib.hid (HR3.out.blk HBHg.out (by have := HWG.out; omega) (by have := HWG.out; omega))
         have HBI5 := Lib.hid (HR3.out.blk HBIg.out (by have := HWG.out; omega) (by have := HWG.out; omega))
         have HBW5 : Hid (Below b0 w w5) := Lib.hid (HBWg.out.trans (Kp.below (HR3.out.hf.mono (by have := HWG.out; omega) (fun k hk e => by have := HWG.out; omega))))
         have HFR5 : Hid (∀ b, bh + 2 ≤ b -> b < BE -> w5.heap[b]? = we.heap[b]?) := Lib.hid fun b h1 h2 => by
           have h := HWG.out
           exact ((HR3.out.hf.block b (by omega) (by omega)).trans (h.1.block b (by omega))).trans (HFR.out.2 b h2 (by omega))
         obtain ⟨B5, hB5⟩ : ∃ B5, B5 = w5.heap.size := ⟨_, rfl⟩
         have HB5 : Hid (B5 = w5.heap.size /\ bo + 2 ≤ B5) := Lib.hid ⟨hB5, by rw [hB5]; exact HR3.out.size⟩
         have HO0 := Lib.hid (OS.start (ob := bo) (Bn := B5) (fun b => bh + 2 ≤ b /\ b ≠ bo) (by omega) HBO5.out (by have := HB5.out; omega) (by rw [hB5]; exact Nat.le_refl _) (fun b hb => by have := HB5.out; have := HWG.out; omega))
         obtain ⟨SR, hsr1, hsr2⟩ := HR3.out.tv (by simp)
         obtain ⟨kd, hbr, hk6, _⟩ := HR3.out.ho
         obtain rfl : kd = 6 := hk6 (by simp)
         have HBR5 := Lib.hid hbr
         have HSR : Hid (TV encJ w5 SR (rootT i).1 (rootT i).2 (jcells (rootT i).1 iv5 kv5) /\ ∀ b, SR b -> (BE ≤ b /\ b ≠ bo) /\ b < B5) := Lib.hid ⟨hsr1, fun b hb => by
           obtain ⟨h1, h2⟩ := hsr2 b hb
           have := HWG.out
           have := HB5.out
           rcases h1 with h1 | h1
           . exact ⟨⟨h1.1, h1.2.1⟩, by omega⟩
           . exact ⟨⟨by omega, by omega⟩, by omega⟩⟩
         clear hsr1 hsr2 hbr hk6 hB5 HBO HBHg HBDg HBIg HBWg HR3 HBO5
         go_wp2_with fail
         refine (text_any vArch _).mono ?_
         rintro x1 w6 ⟨rfl, hb6⟩
         have HO1 := Lib.hid (HO0.out.below hb6)
         clear hb6 HO0
         go_wp2_with fail
         refine (os_put_text HO1.out (by simp) kArch vArch).mono ?_
         rintro x2 w7 ⟨rfl, _, iv7, kv7, h7⟩
         have HO2 := Lib.hid h7
         clear h7 HO1
         go_wp2_with fail
         refine (text_any vOs _).mono ?_
         rintro x1 w8 ⟨rfl, hb8⟩
         have HO3 := Lib.hid (HO2.out.below hb8)
         clear hb8 HO2
         go_wp2_with fail
         refine (os_put_text HO3.out (by simp) kOs vOs).mono ?_
         rintro x2 w9 ⟨rfl, _, iv9, kv9, h9⟩
         have HO4 := Lib.hid h9
         clear h9 HO3
         have HBI9 := Lib.hid (HO4.out.blk HBI5.out (by have := HB5.out; have := HWG.out; omega) (by have := HWG.out; omega))
         have HBW9 : Hid (Below b0 w w9) := Lib.hid (HBW5.out.trans (Kp.below (HO4.out.hf.mono (by have := HB5.out; have := HWG.out; omega) (fun k hk e => by have := HWG.out; omega))))
         have hif7 : (Tryz.prog.info? 25).map (·.size) = some 7 := by kernel_rfl
         have hrg : w9.rangeAt b0 0 [.slice A1 n1 c1, .string ⟨dir.toArray⟩, .string ⟨usr.toArray⟩, .slice A2 n2 c2, .slice A3 n3 c3, .slice A4 n4 c4, .slice A5 n5 c5] := fun jj v hv => by
           rw [Nat.zero_add, HBI9.out.cell]
           have hj := (List.getElem?_eq_some_iff.1 hv).1
           rw [List.getElem?_toArray]
           show ([.slice A1 n1 c1, .string ⟨dir.toArray⟩, .string ⟨usr.toArray⟩, .slice A2 n2 c2, .slice A3 n3 c3, .slice A4 n4 c4, .slice A5 n5 c5] ++ [.slice A6 j c6, .slice A7 q c7] : List Value)[jj]? = some v
           rw [List.getElem?_append_left hj]; exact hv
         have HCF := Lib.hid (config_any i.cfg A1 A2 A3 A4 A5 c1 c2 c3 c4 c5 w9 ((by rw [<- HN.out.1]; exact (HR.out.1.below HBW9.out).more (by have := HBI9.out.lt; omega))) ((by rw [<- HN.out.2.1]; exact (HR.out.2.1.below HBW9.out).more (by have := HBI9.out.lt; omega))) ((by rw [<- HN.out.2.2.1]; exact (HR.out.2.2.1.below HBW9.out).more (by have := HBI9.out.lt; omega))) ((by rw [<- HN.out.2.2.2.1]; exact (HR.out.2.2.2.1.below HBW9.out).more (by have := HBI9.out.lt; omega))) ((by rw [<- HN.out.2.2.2.2.1]; exact (HR.out.2.2.2.2.1.below HBW9.out).more (by have := HBI9.out.lt; omega)))
           HF.out.env HF.out.ports HF.out.labels HF.out.cmd HF.out.entry (fun p hp => by
             have h1 : p.1 ∈ flatP i.cfg.env := List.mem_flatMap.2 ⟨p, hp, by simp⟩
             have h2 : p.2 ∈ flatP i.cfg.env := List.mem_flatMap.2 ⟨p, hp, by simp⟩
             have h3 := sizeT_mem h1
             have h4 := sizeT_mem h2
             have h5 := HF.out.size
             rw [size_is] at h5
             omega))
         rw [<- HN.out.1, <- HN.out.2.1, <- HN.out.2.2.1, <- HN.out.2.2.2.1, <- HN.out.2.2.2.2.1, <- HD.out.1, <- HD.out.2] at HCF
         go_upto_region 26 with (first | refine wpList_load_mid rfl 25 _ rfl b0 0 rfl _ _ hrg Tryz.underlying25 rfl hif7 ?_)
         refine HCF.out.mono ?_
         rintro x1 wc ⟨ivc, kvc, rfl, hvc, hbc⟩
         have HO5 := Lib.hid (HO4.out.below hbc)
         have HVC : Hid (VT wc w9.heap.size (cfgT i.cfg) #[.int .i64 6, .int .i64 0, .string ⟨#[]⟩, ivc, kvc]) := Lib.hid hvc
         clear hvc hbc HCF hrg hif7 HBI9 HBW9 HBI5
         go_upto_region 26 with fail
         refine (os_put_made (v := cfgT i.cfg) (jv := ivc) (jk := kvc) HO4.out HO5.out (by simp) kCfg HVC.out).mono ?_
         rintro x2 wd ⟨rfl, _, ivd, kvd, hd⟩
         have HO6 := Lib.hid hd
         clear hd HO5 HO4 HVC
         have HBHd := Lib.hid (HO6.out.blk HBH5.out (by have := HB5.out; have := HWG.out; omega) (by have := HWG.out; omega))
         have x0 := HBHd.out.cell 0
         have x1 := HBHd.out.cell 1
         have x2 := HBHd.out.cell 2
         have x3 := HBHd.out.cell 3
         have x4 := HBHd.out.cell 4
         go_upto_region 27 with fail
         have HPO := Lib.hid (os_put_old (v := tL PL) (jv := hv) (jk := .slice none 0 0) HO6.out (by simp) kHist HLH.out (fun b h1 h2 => by
           have h3 := HB5.out
           have h4 := HWG.out
           have h5 := HBE.out.1
           exact ⟨⟨h1, by omega⟩, by omega, by omega, HFR5.out b h1 (by omega)⟩))
         clear x0 x1 x2 x3 x4
         refine HPO.out.mono ?_
         clear HPO
         rintro x3 wg2 ⟨rfl, _, ivg, kvg, hg⟩
         rw [HPL.out.1] at hg
         have HO7 := Lib.hid hg
         clear hg HO6 HBHd
         have HBRg := Lib.hid (HO7.out.blk HBR5.out (by have := HB5.out; omega) (by omega))
         have x0 := HBRg.out.cell 0
         have x1 := HBRg.out.cell 1
         have x2 := HBRg.out.cell 2
         have x3 := HBRg.out.cell 3
         have x4 := HBRg.out.cell 4
         go_upto_region 28 with fail
         have HPR := Lib.hid (os_put (v := rootT i) (jv := iv5) (jk := kv5) HO7.out (by simp) kRoot SR (HSR.out.1.kept fun p hp => by
           obtain ⟨h1, h2⟩ := HSR.out.2 _ hp
           exact World.cell?_of_block (HO7.out.hf.block _ h2 h1.2)) (fun b hb => by
           obtain ⟨h1, h2⟩ := HSR.out.2 b hb
           have h3 := HWG.out
           obtain ⟨S', vs, ho, _⟩ := HO7.out.hk.items
           exact ⟨⟨by omega, h1.2⟩, Nat.lt_of_lt_of_le h2 HO7.out.size, fun e => by have := (own_lt HO7.out.hk.keys e).1; omega, fun e => by have := (own_lt ho e).1; omega⟩))
         clear x0 x1 x2 x3 x4
         refine HPR.out.mono ?_
         clear HPR
         rintro x4 wh ⟨rfl, _, ivh, kvh, hh⟩
         have HO8 := Lib.hid hh
         clear hh HO7 HBRg
         obtain ⟨kd, hbo, hk6, _⟩ := HO8.out.ho
         obtain rfl : kd = 6 := hk6 (by simp)
         have x0 := hbo.cell 0
         have x1 := hbo.cell 1
         have x2 := hbo.cell 2
         have x3 := hbo.cell 3
         have x4 := hbo.cell 4
         clear hbo hk6
         have HWh : Hid (Below b0 w wh) := Lib.hid (HBW5.out.trans (Kp.below (HO8.out.hf.mono (by have := HB5.out; have := HWG.out; omega) (fun k hk e => by have := HWG.out; omega))))
         have HVT : Hid (VT wh (bh + 2) (imgT i) #[.int .i64 6, .int .i64 0, .string ⟨#[]⟩, ivh, kvh]) := Lib.hid (HO8.out.vt (by have := HB5.out; have := HWG.out; omega) (fun b h => h.1) (by simp))
         obtain ⟨jv, jk, S, e, htv, hS⟩ := HVT.out
         have e2 : ivh = jv /\ kvh = jk := by simpa [jcells, imgT, tO] using e
         obtain ⟨rfl, rfl⟩ := e2
         have HPR := Lib.hid (print_any (imgT i).1 (imgT i).2 ivh kvh S wh (fok_img HF.out.size H32.out).1 (fok_img HF.out.size H32.out).2 htv (fun b hb => (hS b hb).2) (HST.out.below (by rw [<- HB0.out]; exact HWh.out)) (fun _ => by
           show (frm (imgT i)).length ≤ _
           obtain ⟨_, _, _, _, z1, z2, _, _⟩ := w0_zero HP0.out
           rw [frm_img z1 z2]
           exact Nat.le_trans (imgB_len HP0.out H32.out) (by decide)))
         clear e htv hS
         go_wp2_with fail
         refine HPR.out.mono ?_
         rintro x7 wz ⟨hbz, hxz⟩
         have HBZ : Hid (Below b0 w wz) := Lib.hid (HWh.out.trans (hbz.mono (by have := HO8.out.size; have := HB5.out; have := HWG.out; omega)))
         have HMP := Lib.hid (imgP_yes HP0.out)
         clear hbz x0 x1 x2 x3 x4
         rcases hxz with ⟨h0, rfl⟩ | ⟨h0, rfl⟩
         . go_wp2_with fail
           go_ret2
           rw [HMP.out, printed_ok h0, h0]
           exact ⟨rfl, by rw [<- HB0.out]; exact HBZ.out⟩
         . go_wp2_with fail
           go_ret2
           rw [HMP.out, printed_no h0, errV_ne h0]
           exact ⟨rfl, by rw [<- HB0.out]; exact HBZ.out⟩
 . have HP := Lib.hid (imgP_no h0)
   rw [errV_ne h0]
   obtain ⟨no, hno⟩ : ∃ no, no = w0 i := ⟨_, rfl⟩
   rw [<- hno] at HP ⊢
   have HE : Hid (errV no = errnoV no) := Lib.hid (errV_ne (by rw [hno]; exact h0))
   clear h0 hno
   rw [show errnoV no = Value.iface 110 (.int .i64 no) from rfl]
   go_wp2_with fail
   go_ret2
   rw [HP.out, HE.out]
   exact ⟨rfl, by rw [<- HB0.out]; exact HW1.out.1⟩
end Js.Cf
end Go.Proofs.YtjohdaobhonioaaGreatDoor
