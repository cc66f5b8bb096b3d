/-
  Parts of the proof: CfBm, Opm.
-/
import Derived.Test.YtjohdaobhonioaaGreatDoorPkBm39
import Derived.Test.YtjohdaobhonioaaGreatDoorPkBm13
import Derived.Test.YtjohdaobhonioaaGreatDoorPkBm6
import Derived.Test.YtjohdaobhonioaaGreatDoorPkBm1
namespace Go.Proofs.YtjohdaobhonioaaGreatDoor
open Go.RowKit
namespace Js.Cf
theorem wpList_load_g {P : Program} {ops : Array Oper} {rest : List Oper} {op : Oper} {a : Act} {w : World} {Q : Exit → Act → World → Prop} (hgd : Region.wanted op (yielded ops a.tmps) = true) (ty : TypeId) (x : Operand) (ho : op.op = .load ty x)
  (g off : Nat) (hx : a.eval x = .pointer (some ⟨g, off, none⟩)) (cs : List Value) (d : TypeDesc) (hr : w.rangeAt g off cs) (hu : P.underlying ty = some d) (hd : d.isRow = true) (hi : (P.info? ty).map (·.size) = some cs.length)
  (h : wpList P ops Q rest (a.put op.dst (.agg cs.toArray)) w) : wpList P ops Q (op :: rest) a w :=
 BigFrame.wpList_want hgd fun _ hK => wp_load_mid ty x ho g off hx cs d hr hu hd hi (hK _ _ h)
theorem mfP_err {m : Mf} (h : (mfP m).2 ≠ 0) : (mfP m).1 = [] := by
 unfold mfP at h ⊢
 split
 · rfl
 · rename_i h1
   rw [if_neg h1] at h
   unfold printed at h ⊢
   split
   · rfl
   · rename_i h2
     rw [if_neg h2] at h
     split
     · rfl
     · rename_i h3; rw [if_neg h3] at h; exact absurd rfl h
theorem mfP_back {m : Mf} {s : B} (hm : MfOk m) (h : mfP m = (s, 0)) : progM s = some m := progM_back hm (by rw [← mf_same hm]; exact h)
set_option maxHeartbeats 8000000 in
set_option maxRecDepth 100000 in
theorem configBackManifests_any (m n : Mf) (A A' : Option Addr) (c c' : Nat) (w : World) (hm : MfOk m) (hn : MfOk n) (hr : Reads w w.heap.size 33 A m.layers.length (pcC m.layers)) (hr' : Reads w w.heap.size 33 A' n.layers.length (pcC n.layers)) (hl : m.layers.length ≤ 1099511627776) (hl' : n.layers.length ≤ 1099511627776) (hst : St w) :
   Calls Tryz.prog 4 #[.agg (pcV m.cfg ++ [Value.slice A m.layers.length c]).toArray, .agg (pcV n.cfg ++ [Value.slice A' n.layers.length c']).toArray] w fun x w' => x = .returned (.bool true) ∧ Below w.heap.size w w' := by
 have HST := Lib.hid hst
 have HMN := Lib.hid (And.intro hm hn)
 obtain ⟨b0, hb0⟩ : ∃ b0, b0 = w.heap.size := ⟨_, rfl⟩
 have HB0 := Lib.hid hb0
 have HRR : Hid (∀ wx, Below b0 w wx → Reads wx wx.heap.size 33 A m.layers.length (pcC m.layers) ∧ Reads wx wx.heap.size 33 A' n.layers.length (pcC n.layers)) := Lib.hid (fun wx h => by
   rw [hb0] at h
   exact ⟨(hr.below h).more h.size, (hr'.below h).more h.size⟩)
 have HLL := Lib.hid (And.intro hl hl')
 have hp1 : (pcV m.cfg).length = 33 := pcV_len hm.1.1
 have hp2 : (pcV n.cfg).length = 33 := pcV_len hn.1.1
 have HC1 : Hid (∀ wx, Below b0 w wx → Calls Tryz.prog 16 #[.agg (pcV m.cfg ++ [Value.slice A m.layers.length c]).toArray] wx fun x w' => x = .returned (.tuple #[.string ⟨(mfP m).1.toArray⟩, errV (mfP m).2]) ∧ Below wx.heap.size wx w') :=
   Lib.hid (fun wx h => manifest_any m A c wx HMN.out.1 (HRR.out wx h).1 HLL.out.1 (HST.out.below (by rw [← hb0]; exact h)))
 have HC2 : Hid (∀ wx, Below b0 w wx → Calls Tryz.prog 16 #[.agg (pcV n.cfg ++ [Value.slice A' n.layers.length c']).toArray] wx fun x w' => x = .returned (.tuple #[.string ⟨(mfP n).1.toArray⟩, errV (mfP n).2]) ∧ Below wx.heap.size wx w') :=
   Lib.hid (fun wx h => manifest_any n A' c' wx HMN.out.2 (HRR.out wx h).2 HLL.out.2 (HST.out.below (by rw [← hb0]; exact h)))
 have HSM : Hid (∀ wx, Below b0 w wx → ∀ (A2 : Option Addr) (c2 : Nat), Reads wx wx.heap.size 33 A2 m.layers.length (pcC m.layers) → Calls Tryz.prog 18 #[.agg (pcV m.cfg ++ [Value.slice A2 m.layers.length c2]).toArray, .agg (pcV m.cfg ++ [Value.slice A m.layers.length c]).toArray] wx (SameP (m = m) wx)) :=
   Lib.hid (fun wx h A2 c2 hrx => SameManifest_any m m A2 A c2 c wx HMN.out.1 HMN.out.1 hrx (HRR.out wx h).1 HLL.out.1 HLL.out.1)
 have HSN : Hid (∀ wx, Below b0 w wx → Calls Tryz.prog 18 #[.agg (pcV m.cfg ++ [Value.slice A m.layers.length c]).toArray, .agg (pcV n.cfg ++ [Value.slice A' n.layers.length c']).toArray] wx (SameP (m = n) wx)) :=
   Lib.hid (fun wx h => SameManifest_any m n A A' c c' wx HMN.out.1 HMN.out.2 (HRR.out wx h).1 (HRR.out wx h).2 HLL.out.1 HLL.out.2)
 obtain ⟨p, hp⟩ : ∃ p, p = pcV m.cfg := ⟨_, rfl⟩
 obtain ⟨q, hq⟩ : ∃ q, q = pcV n.cfg := ⟨_, rfl⟩
 obtain ⟨n1, hn1⟩ : ∃ n1, n1 = m.layers.length := ⟨_, rfl⟩
 obtain ⟨n2, hn2⟩ : ∃ n2, n2 = n.layers.length := ⟨_, rfl⟩
 obtain ⟨s1, hs1⟩ : ∃ s1, s1 = (mfP m).1 := ⟨_, rfl⟩
 obtain ⟨s2, hs2⟩ : ∃ s2, s2 = (mfP n).1 := ⟨_, rfl⟩
 obtain ⟨e1, he1⟩ : ∃ e1, e1 = (mfP m).2 := ⟨_, rfl⟩
 obtain ⟨e2, he2⟩ : ∃ e2, e2 = (mfP n).2 := ⟨_, rfl⟩
 have HPD : Hid (p = pcV m.cfg ∧ n1 = m.layers.length ∧ p.toArray.all (·.oneCell') = true) := Lib.hid ⟨hp, hn1, by rw [hp]; exact one_piece _ _⟩
 have HPQ : Hid (p.length = 33 ∧ q.length = 33) := Lib.hid ⟨by rw [hp]; exact hp1, by rw [hq]; exact hp2⟩
 have HES : Hid (mfP m = (s1, e1) ∧ mfP n = (s2, e2)) := Lib.hid ⟨by rw [hs1, he1], by rw [hs2, he2]⟩
 rw [← hp, ← hn1, ← hs1, ← he1] at HC1
 rw [← hq, ← hn2, ← hs2, ← he2] at HC2
 rw [← hp, ← hn1] at HSM
 rw [← hp, ← hq, ← hn1, ← hn2] at HSN
 rw [← hp, ← hq, ← hn1, ← hn2]
 clear hp hq hn1 hn2 hs1 hs2 he1 he2 hp1 hp2 hr hr' hl hl' hm hn hst HRR HLL
 obtain ⟨wz, hwz⟩ : ∃ wz, wz = (w.alloc (.cells (p ++ [Value.slice A n1 c]).toArray 45)).alloc (.cells (q ++ [Value.slice A' n2 c']).toArray 45) := ⟨_, rfl⟩
 have HBP : Hid (Blk wz b0 45 (p ++ [Value.slice A n1 c]).toArray) := Lib.hid (by rw [hwz, hb0]; exact (Blk.new _ _ _).alloc _)
 have HBQ : Hid (Blk wz (b0 + 1) 45 (q ++ [Value.slice A' n2 c']).toArray) := Lib.hid (by
   have := Blk.new (w.alloc (.cells (p ++ [Value.slice A n1 c]).toArray 45)) 45 (q ++ [Value.slice A' n2 c']).toArray
   rw [hwz, hb0]; simpa using this)
 have HWZ : Hid (Below b0 w wz) := Lib.hid (by rw [hwz, hb0]; exact ((Below.refl _ _).alloc (Nat.le_refl _) _).alloc (by simp) _)
 go_enter Tryz.func4, Tryz.ntmps4
 go_upto_region 1 with fail
 rw [← hwz]
 try rw [← hb0]
 clear hwz hb0
 have k1 : wz.cell? ⟨b0, 33, none⟩ = some (.slice A n1 c) := by rw [HBP.out.cell]; exact mf_cell0 HPQ.out.1 _
 have k2 : wz.cell? ⟨b0 + 1, 33, none⟩ = some (.slice A' n2 c') := by rw [HBQ.out.cell]; exact mf_cell0 HPQ.out.2 _
 by_cases hf1 : 8192 < n1
 · go_wp2
   go_ret
   exact ⟨rfl, by rw [← HB0.out]; exact HWZ.out⟩
 · by_cases hf2 : 8192 < n2
   · go_wp2
     go_ret
     exact ⟨rfl, by rw [← HB0.out]; exact HWZ.out⟩
   · have HRM : Hid (∀ wx, Below wz.heap.size wz wx → wx.rangeAt b0 0 (p ++ [Value.slice A n1 c]) ∧ wx.rangeAt (b0 + 1) 0 (q ++ [Value.slice A' n2 c'])) := Lib.hid (fun wx h => ⟨fun jj v hv => by rw [Nat.zero_add, (HBP.out.below h HBP.out.lt).cell]; simpa using hv, fun jj v hv => by rw [Nat.zero_add, (HBQ.out.below h HBQ.out.lt).cell]; simpa using hv⟩)
     have hi1 : (Tryz.prog.info? 45).map (·.size) = some (p ++ [Value.slice A n1 c]).length := by rw [List.length_append, HPQ.out.1]; kernel_rfl
     have hi2 : (Tryz.prog.info? 45).map (·.size) = some (q ++ [Value.slice A' n2 c']).length := by rw [List.length_append, HPQ.out.2]; kernel_rfl
     have hg1 := (HRM.out wz (Below.refl _ _)).1
     go_wp2_with (refine wpList_load_mid rfl 45 _ rfl b0 0 rfl _ _ hg1 Tryz.underlying45 rfl hi1 ?_)
     refine (HC1.out wz HWZ.out).mono ?_
     rintro x w1 ⟨rfl, h1⟩
     have HX1 := Lib.hid h1
     have HW1 : Hid (Below b0 w w1) := Lib.hid (HWZ.out.trans (h1.mono (by have := HBP.out.lt; omega)))
     clear hg1 h1 k1 k2 HC1
     have hg2 := (HRM.out w1 HX1.out).2
     go_wp2_with (refine wpList_load_mid rfl 45 _ rfl (b0 + 1) 0 rfl _ _ hg2 Tryz.underlying45 rfl hi2 ?_)
     refine (HC2.out w1 HW1.out).mono ?_
     rintro x w2 ⟨rfl, h2⟩
     have HX2 : Hid (Below wz.heap.size wz w2) := Lib.hid (HX1.out.trans (h2.mono HX1.out.size))
     have HW2 : Hid (Below b0 w w2) := Lib.hid (HW1.out.trans (h2.mono (by have := HW1.out.size; have := HB0.out; omega)))
     clear hg2 h2 HC2 HX1 HW1
     by_cases hz : e1 = 0 ∧ e2 = 0
     · obtain ⟨hz1, hz2⟩ := hz
       rw [hz1, hz2, show errV 0 = Value.nilIface from rfl]
       have HM1 : Hid (mfP m = (s1, 0) ∧ mfP n = (s2, 0)) := Lib.hid ⟨by rw [HES.out.1, hz1], by rw [HES.out.2, hz2]⟩
       clear hz1 hz2 HES
       have HPM := Lib.hid (parseManifest_any s1 w2 (HST.out.below (by rw [← HB0.out]; exact HW2.out)))
       go_wp2_with fail
       refine HPM.out.mono ?_
       intro x w3 hx
       unfold MPost at hx
       rw [mfP_back HMN.out.1 HM1.out.1] at hx
       obtain ⟨h3, lv, rfl, ho, _, _⟩ := hx
       obtain ⟨A3, c3, rfl, hr3⟩ := own_readsN ho
       rw [← HPD.out.1, ← HPD.out.2.1]
       have HR3 := Lib.hid hr3
       have HX3 : Hid (Below wz.heap.size wz w3) := Lib.hid (HX2.out.trans (h3.mono HX2.out.size))
       have HW3 : Hid (Below b0 w w3) := Lib.hid (HW2.out.trans (h3.mono (by have := HW2.out.size; have := HB0.out; omega)))
       clear h3 ho hr3 HPM HX2 HW2
       go_upto_region 8 with (refine wpList_store_row rfl 45 _ _ rfl _ _ rfl rfl 45 _ (heap_alloc_new _ _) (infoMx p HPQ.out.1 _) (by exact (size34 HPQ.out.1 _).symm) (one_app HPD.out.2.2) ?_)
       rw [alloc_setRow]
       obtain ⟨bx, hbx⟩ : ∃ bx, bx = w3.heap.size := ⟨_, rfl⟩
       obtain ⟨w4, hw4⟩ : ∃ w4, w4 = w3.alloc (.cells (p ++ [Value.slice A3 n1 c3]).toArray 45) := ⟨_, rfl⟩
       have hb4 : Below w3.heap.size w3 w4 := by rw [hw4]; exact (Below.refl _ _).alloc (Nat.le_refl _) _
       have HBX : Hid (Blk w4 bx 45 (p ++ [Value.slice A3 n1 c3]).toArray) := Lib.hid (by rw [hw4, hbx]; exact Blk.new _ _ _)
       have HX4 : Hid (Below wz.heap.size wz w4) := Lib.hid (HX3.out.trans (hb4.mono HX3.out.size))
       have HW4 : Hid (Below b0 w w4) := Lib.hid (HW3.out.trans (hb4.mono (by have := HW3.out.size; have := HB0.out; omega)))
       have HR4 : Hid (Reads w4 w4.heap.size 33 A3 m.layers.length (pcC m.layers)) := Lib.hid (reads_up HR3.out hb4)
       rw [← hw4, ← hbx]
       clear hw4 hbx hb4 HX3 HW3 HR3
       have hgx : w4.rangeAt bx 0 (p ++ [Value.slice A3 n1 c3]) := fun jj v hv => by rw [Nat.zero_add, HBX.out.cell]; simpa using hv
       have hix : (Tryz.prog.info? 45).map (·.size) = some (p ++ [Value.slice A3 n1 c3]).length := by rw [List.length_append, HPQ.out.1]; kernel_rfl
       have hg1 := (HRM.out w4 HX4.out).1
       by_cases hs : s1 = s2
       · have HMM : Hid (m = n) := Lib.hid (mf_inj HMN.out.1 HMN.out.2 HM1.out.1 (by rw [hs]; exact HM1.out.2))
         subst hs
         go_wp2_with (first | refine wpList_load_g (by rfl) 45 _ rfl bx 0 rfl _ _ hgx Tryz.underlying45 rfl hix ?_ | refine wpList_load_g (by rfl) 45 _ rfl b0 0 rfl _ _ hg1 Tryz.underlying45 rfl hi1 ?_)
         refine (HSM.out w4 HW4.out A3 c3 (by rw [HPD.out.2.1]; exact HR4.out)).mono ?_
         rintro x w5 ⟨b5, rfl, hb5, h5⟩
         obtain rfl : b5 = true := hb5.2 (by trivial)
         have HX5 : Hid (Below wz.heap.size wz w5) := Lib.hid (HX4.out.trans (h5.mono HX4.out.size))
         have HW5 : Hid (Below b0 w w5) := Lib.hid (HW4.out.trans (h5.mono (by have := HW4.out.size; have := HB0.out; omega)))
         clear hb5 h5 hgx hix hg1 HX4 HW4 HBX HR4
         have hg1 := (HRM.out w5 HX5.out).1
         have hg2 := (HRM.out w5 HX5.out).2
         go_wp2_with (first | refine wpList_load_g (by rfl) 45 _ rfl b0 0 rfl _ _ hg1 Tryz.underlying45 rfl hi1 ?_ | refine wpList_load_g (by rfl) 45 _ rfl (b0 + 1) 0 rfl _ _ hg2 Tryz.underlying45 rfl hi2 ?_)
         refine (HSN.out w5 HW5.out).mono ?_
         rintro x w6 ⟨b6, rfl, hb6, h6⟩
         obtain rfl : b6 = true := hb6.2 HMM.out
         have HW6 : Hid (Below b0 w w6) := Lib.hid (HW5.out.trans (h6.mono (by have := HW5.out.size; have := HB0.out; omega)))
         clear hb6 h6 hg1 hg2 HX5 HW5 hi1 hi2
         have HWK := Lib.hid (works_any w6 (HST.out.below (by rw [← HB0.out]; exact HW6.out)))
         go_wp2_with fail
         refine HWK.out.mono ?_
         rintro x w7 ⟨rfl, h7⟩
         have HW7 : Hid (Below b0 w w7) := Lib.hid (HW6.out.trans (h7.mono (by have := HW6.out.size; have := HB0.out; omega)))
         clear h7 HWK HW6
         go_wp2
         go_ret
         exact ⟨rfl, by rw [← HB0.out]; exact HW7.out⟩
       · have HMM : Hid (¬ m = n) := Lib.hid (fun e => hs (by have h1 := HM1.out.1; have h2 := HM1.out.2; rw [e, h2] at h1; injection h1 with h1; exact h1.symm))
         have hs2 : (s1 == s2) = false := str_neq _ _ hs
         clear hs
         go_wp2_with (first | refine wpList_load_g (by rfl) 45 _ rfl bx 0 rfl _ _ hgx Tryz.underlying45 rfl hix ?_ | refine wpList_load_g (by rfl) 45 _ rfl b0 0 rfl _ _ hg1 Tryz.underlying45 rfl hi1 ?_)
         refine (HSM.out w4 HW4.out A3 c3 (by rw [HPD.out.2.1]; exact HR4.out)).mono ?_
         rintro x w5 ⟨b5, rfl, hb5, h5⟩
         obtain rfl : b5 = true := hb5.2 (by trivial)
         have HX5 : Hid (Below wz.heap.size wz w5) := Lib.hid (HX4.out.trans (h5.mono HX4.out.size))
         have HW5 : Hid (Below b0 w w5) := Lib.hid (HW4.out.trans (h5.mono (by have := HW4.out.size; have := HB0.out; omega)))
         clear hb5 h5 hgx hix hg1 HX4 HW4 HBX HR4
         have hg1 := (HRM.out w5 HX5.out).1
         have hg2 := (HRM.out w5 HX5.out).2
         go_wp2_with (first | refine wpList_load_g (by rfl) 45 _ rfl b0 0 rfl _ _ hg1 Tryz.underlying45 rfl hi1 ?_ | refine wpList_load_g (by rfl) 45 _ rfl (b0 + 1) 0 rfl _ _ hg2 Tryz.underlying45 rfl hi2 ?_)
         refine (HSN.out w5 HW5.out).mono ?_
         rintro x w6 ⟨b6, rfl, hb6, h6⟩
         obtain rfl : b6 = false := by
           cases b6
           · rfl
           · exact absurd (hb6.1 rfl) HMM.out
         have HW6 : Hid (Below b0 w w6) := Lib.hid (HW5.out.trans (h6.mono (by have := HW5.out.size; have := HB0.out; omega)))
         clear hb6 h6 hg1 hg2 HX5 HW5 hi1 hi2
         have HWK := Lib.hid (works_any w6 (HST.out.below (by rw [← HB0.out]; exact HW6.out)))
         go_wp2_with fail
         refine HWK.out.mono ?_
         rintro x w7 ⟨rfl, h7⟩
         have HW7 : Hid (Below b0 w w7) := Lib.hid (HW6.out.trans (h7.mono (by have := HW6.out.size; have := HB0.out; omega)))
         clear h7 HWK HW6
         go_wp2
         go_ret
         exact ⟨rfl, by rw [← HB0.out]; exact HW7.out⟩
     · have HWK := Lib.hid (works_any w2 (HST.out.below (by rw [← HB0.out]; exact HW2.out)))
       have HN1 : Hid (e1 ≠ 0 → s1 = []) := Lib.hid (fun h => by have h1 := mfP_err (m := m) (by rw [HES.out.1]; exact h); rw [HES.out.1] at h1; exact h1)
       have HN2 : Hid (e2 ≠ 0 → s2 = []) := Lib.hid (fun h => by have h1 := mfP_err (m := n) (by rw [HES.out.2]; exact h); rw [HES.out.2] at h1; exact h1)
       by_cases h1 : e1 = 0
       · have h2 : e2 ≠ 0 := fun h => hz ⟨h1, h⟩
         obtain rfl := HN2.out h2
         rw [h1, errV_ne h2, show errV 0 = Value.nilIface from rfl, show errnoV e2 = Value.iface 110 (.int .i64 e2) from rfl]
         clear h1 h2 hz
         go_wp2_with fail
         refine HWK.out.mono ?_
         rintro x w7 ⟨rfl, h7⟩
         have HW7 : Hid (Below b0 w w7) := Lib.hid (HW2.out.trans (h7.mono (by have := HW2.out.size; have := HB0.out; omega)))
         clear h7 HWK HW2
         go_wp2
         go_ret
         exact ⟨rfl, by rw [← HB0.out]; exact HW7.out⟩
       · obtain rfl := HN1.out h1
         rw [errV_ne h1, show errnoV e1 = Value.iface 110 (.int .i64 e1) from rfl]
         by_cases h2 : e2 = 0
         · rw [h2, show errV 0 = Value.nilIface from rfl]
           clear h1 h2 hz
           go_wp2_with fail
           refine HWK.out.mono ?_
           rintro x w7 ⟨rfl, h7⟩
           have HW7 : Hid (Below b0 w w7) := Lib.hid (HW2.out.trans (h7.mono (by have := HW2.out.size; have := HB0.out; omega)))
           clear h7 HWK HW2
           go_wp2
           go_ret
           exact ⟨rfl, by rw [← HB0.out]; exact HW7.out⟩
         · obtain rfl := HN2.out h2
           rw [errV_ne h2, show errnoV e2 = Value.iface 110 (.int .i64 e2) from rfl]
           clear h1 h2 hz
           go_wp2_with fail
           refine HWK.out.mono ?_
           rintro x w7 ⟨rfl, h7⟩
           have HW7 : Hid (Below b0 w w7) := Lib.hid (HW2.out.trans (h7.mono (by have := HW2.out.size; have := HB0.out; omega)))
           clear h7 HWK HW2
           go_wp2
           go_ret
           exact ⟨rfl, by rw [← HB0.out]; exact HW7.out⟩
set_option maxHeartbeats 2000000 in
theorem cbm_large (p q : List Value) (n1 n2 : Nat) (A A' : Option Addr) (c c' : Nat) (w : World) (hp : p.length = 33) (hq : q.length = 33) (hn : 8192 < n1 ∨ 8192 < n2) :
   Calls Tryz.prog 4 #[.agg (p ++ [Value.slice A n1 c]).toArray, .agg (q ++ [Value.slice A' n2 c']).toArray] w fun x w' => x = .returned (.bool true) ∧ Below w.heap.size w w' := by
 obtain ⟨wz, hwz⟩ : ∃ wz, wz = (w.alloc (.cells (p ++ [Value.slice A n1 c]).toArray 45)).alloc (.cells (q ++ [Value.slice A' n2 c']).toArray 45) := ⟨_, rfl⟩
 obtain ⟨b0, hb0⟩ : ∃ b0, b0 = w.heap.size := ⟨_, rfl⟩
 have HB0 := Lib.hid hb0
 have HN := Lib.hid hn
 have HBP : Hid (Blk wz b0 45 (p ++ [Value.slice A n1 c]).toArray) := Lib.hid (by rw [hwz, hb0]; exact (Blk.new _ _ _).alloc _)
 have HBQ : Hid (Blk wz (b0 + 1) 45 (q ++ [Value.slice A' n2 c']).toArray) := Lib.hid (by
   have := Blk.new (w.alloc (.cells (p ++ [Value.slice A n1 c]).toArray 45)) 45 (q ++ [Value.slice A' n2 c']).toArray
   rw [hwz, hb0]; simpa using this)
 have HWZ : Hid (Below b0 w wz) := Lib.hid (by rw [hwz, hb0]; exact ((Below.refl _ _).alloc (Nat.le_refl _) _).alloc (by simp) _)
 have k1 : wz.cell? ⟨b0, 33, none⟩ = some (.slice A n1 c) := by rw [HBP.out.cell]; exact mf_cell0 hp _
 have k2 : wz.cell? ⟨b0 + 1, 33, none⟩ = some (.slice A' n2 c') := by rw [HBQ.out.cell]; exact mf_cell0 hq _
 clear hn hp hq HBP HBQ
 go_enter Tryz.func4, Tryz.ntmps4
 go_upto_region 1 with fail
 rw [← hwz]
 try rw [← hb0]
 clear hwz hb0
 by_cases hf1 : 8192 < n1
 · go_wp2
   go_ret
   exact ⟨rfl, by rw [← HB0.out]; exact HWZ.out⟩
 · have hf2 : 8192 < n2 := by have := HN.out; omega
   go_wp2
   go_ret
   exact ⟨rfl, by rw [← HB0.out]; exact HWZ.out⟩
theorem cbm_all (m n : Mf) (A A' : Option Addr) (c c' : Nat) (w : World) (hm : MfOk m) (hn : MfOk n) (hr : Reads w w.heap.size 33 A m.layers.length (pcC m.layers)) (hr' : Reads w w.heap.size 33 A' n.layers.length (pcC n.layers)) (hst : St w) :
   Calls Tryz.prog 4 #[.agg (pcV m.cfg ++ [Value.slice A m.layers.length c]).toArray, .agg (pcV n.cfg ++ [Value.slice A' n.layers.length c']).toArray] w fun x w' => x = .returned (.bool true) ∧ Below w.heap.size w w' := by
 by_cases h : 8192 < m.layers.length ∨ 8192 < n.layers.length
 · exact cbm_large _ _ _ _ A A' c c' w (pcV_len hm.1.1) (pcV_len hn.1.1) h
 · exact configBackManifests_any m n A A' c c' w hm hn hr hr' (by omega) (by omega) hst
end Js.Cf
end Go.Proofs.YtjohdaobhonioaaGreatDoor
namespace Go.Proofs.YtjohdaobhonioaaGreatDoor
open Go.ChangeShapes Go.WideShapes Go.ChangeAt Go.RowKit Go.Lib
namespace Js.Cf
def dMf {H : Type} : DataW H := .agg [.agg [.agg (List.replicate 32 (.lit (.int .u8 0))), .lit (.int .i64 0)], .nil]
section
variable {H : Type} {enc : TypeId × Value → H} {w : World} {base : Nat} {sp : Nat → Bool} {held : Bool}
theorem flat_cellsC {w : World} {a : Addr} {sz : Nat} : ∀ (rows : List (List Value)) (i0 : Nat), (∀ i, i < rows.length → (rows.getD i []).length = sz ∧ ∀ m, m < sz → w.cell? (a.add ((i0 + i) * sz + m)) = (rows.getD i [])[m]?) →
  rows.flatten.length = rows.length * sz ∧ ∀ j u, rows.flatten[j]? = some u → w.cell? (a.add (i0 * sz + j)) = some u
 | [], i0, _ => ⟨by simp, fun j u h => by simp at h⟩
 | r :: rest, i0, h => by
  obtain ⟨h1, h2⟩ := h 0 (by simp)
  obtain ⟨h3, h4⟩ := flat_cellsC rest (i0 + 1) (fun i hi => by
    have := h (i + 1) (by simpa using hi)
    simp only [List.getD_cons_succ] at this
    rw [show i0 + (i + 1) = i0 + 1 + i by omega] at this
    exact this)
  simp only [List.getD_cons_zero, Nat.add_zero] at h1 h2
  refine ⟨by rw [List.flatten_cons, List.length_append, h3, h1, List.length_cons, Nat.succ_mul]; omega, fun j u hu => ?_⟩
  rw [List.flatten_cons] at hu
  by_cases hj : j < r.length
  · rw [List.getElem?_append_left hj] at hu
    rw [h2 j (by omega)]; exact hu
  · rw [List.getElem?_append_right (by omega)] at hu
    have := h4 (j - r.length) u hu
    rw [show (i0 + 1) * sz + (j - r.length) = i0 * sz + j by rw [Nat.succ_mul]; omega] at this
    exact this
theorem rows_of_trodC {t e k : TypeId} (ht : Tryz.prog.underlying t = some (.slice e)) (hk : Tryz.prog.cellsOf e = k) (h0 : 0 < k) {fuel : Nat} {cs : List Value} {d : DataW H} {ps : List MemPlace} (hf : DataW.trod enc Tryz.prog w base sp held fuel t cs = some (d, ps)) :
   ∃ (A : Option Addr) (n c g : Nat) (rows : List (List Value)) (ds : List (DataW H)), cs = [.slice A n c] ∧ rows.length = n ∧ ds.length = n ∧ (∀ i, i < n → ∃ ps', DataW.trod enc Tryz.prog w base sp held g e (rows.getD i []) = some (ds.getD i .nil, ps')) ∧ Reads w w.heap.size k A n rows.flatten ∧ Rows.uptoBulkAll ds ≤ Rows.uptoBulk d := by
 rcases DataW.trod_slice ht hf with ⟨hcs, hx⟩ | ⟨a, len, cap, elems, rest, n, hfu, hcs, hx, hb, hl, hm, hlen, hel, _, _⟩
 · injection hx with hd _
   subst hd
   exact ⟨none, 0, 0, 0, [], [], hcs, rfl, rfl, fun i hi => by omega, ⟨by simp, fun hn => by omega⟩, by simp [Rows.uptoBulkAll]⟩
 · injection hx with hd _
   subst hd
   rw [hk] at hel
   have hrow : ∀ i, i < len → ∃ cs y, w.cells? base (a.add (i * k)) k = some cs ∧ elems[i]? = some y ∧ DataW.trod enc Tryz.prog w base sp held n e cs = some y := by
     intro i hi
     have h1 := hel i hi
     have h2 : elems[i]? = some (elems[i]'(by omega)) := List.getElem?_eq_getElem (by omega)
     rw [h2, Option.bind_eq_some_iff] at h1
     obtain ⟨cs, h3, h4⟩ := h1
     exact ⟨cs, _, h3, h2, h4⟩
   let f : Nat → List Value := fun i => (w.cells? base (a.add (i * k)) k).getD []
   have hget : ∀ i, i < len → ((List.range len).map f).getD i [] = f i := fun i hi => by simp [List.getD, hi]
   have hcell : ∀ i, i < len → ((List.range len).map f).getD i [] = f i ∧ (f i).length = k ∧ ∀ m, m < k → w.cell? (a.add (i * k + m)) = (f i)[m]? := fun i hi => by
     obtain ⟨cs, y, h3, _, _⟩ := hrow i hi
     obtain ⟨_, h5, h6⟩ := World.cells?_some h3
     have hfi : f i = cs := by simp [f, h3]
     refine ⟨hget i hi, by rw [hfi]; exact h5, fun m hm => ?_⟩
     rw [hfi, ← h6 m hm, add_of_add]
   obtain ⟨h7, h8⟩ := flat_cellsC (w := w) (a := a) (sz := k) ((List.range len).map f) 0 (fun i hi => by
     have hi' : i < len := by simpa using hi
     obtain ⟨e1, e2, e3⟩ := hcell i hi'
     rw [e1]
     refine ⟨e2, fun m hm => ?_⟩
     rw [Nat.zero_add]; exact e3 m hm)
   refine ⟨some a, len, cap, n, (List.range len).map f, elems.map (·.1), hcs, by simp, by simpa using hlen, fun i hi => ?_, ⟨by simpa using h7, fun hn => ⟨a, rfl, ?_, fun j u hu => ?_⟩⟩, ?_⟩
   · obtain ⟨cs, y, h3, h4, h5⟩ := hrow i hi
     refine ⟨y.2, ?_⟩
     have hfi : f i = cs := by simp [f, h3]
     rw [hget i hi, hfi, h5]
     simp [List.getD, List.getElem?_map, h4]
   · obtain ⟨e1, e2, e3⟩ := hcell 0 (by omega)
     have h9 := e3 0 h0
     rw [List.getElem?_eq_getElem (show 0 < (f 0).length by rw [e2]; exact h0)] at h9
     have := block_lt_of_cell h9
     rwa [block_of_add] at this
   · have := h8 j u hu
     simpa using this
   · rw [Rows.uptoBulk]; omega
theorem bytes_of_trod {P : Program} {T e n : TypeId} (hT : P.underlying T = some (.array n e)) (he : P.underlying e = some (.int .u8)) (hce : P.cellsOf e = 1) (hct : P.cellsOf T = n) {fuel : Nat} {cs : List Value} {d : DataW H} {ps : List MemPlace} (hf : DataW.trod enc P w base sp held fuel T cs = some (d, ps)) : ∃ bs : B, bs.length = n ∧ cs = Lib.byteCells bs := by
 obtain ⟨xs, m, _, _, hlen, hn, hx⟩ := DataW.trod_array hT hf
 rw [hct] at hlen
 simp only [hce, Nat.mul_one] at hx
 have key : ∀ (l : List Value), (∀ v ∈ l, ∃ b : UInt8, v = .int .u8 b.toNat) → ∃ bs : List UInt8, l = Lib.byteCells bs := by
  intro l
  induction l with
  | nil => intro _; exact ⟨[], rfl⟩
  | cons v l ih =>
   intro h
   obtain ⟨b, rfl⟩ := h v (by simp)
   obtain ⟨bs, rfl⟩ := ih (fun v hv => h v (by simp [hv]))
   exact ⟨b :: bs, rfl⟩
 obtain ⟨bs, hbs⟩ := key cs (fun v hv => by
  obtain ⟨i, hi, rfl⟩ := List.getElem_of_mem hv
  have h1 := hx i (by omega)
  rw [List.getElem?_eq_getElem (by omega), List.drop_eq_getElem_cons hi] at h1
  simp only [List.take_succ_cons, List.take_zero] at h1
  obtain ⟨z, hz, _, hw⟩ := DataW.trod_int he h1
  simp only [List.cons.injEq, and_true] at hz
  rw [hz]
  have hb : 0 ≤ z ∧ z < 256 := by
   simp [Lit.wf, IntKind.min, IntKind.max, IntKind.signed, IntKind.bits] at hw
   omega
  refine ⟨UInt8.ofNat z.toNat, ?_⟩
  rw [UInt8.toNat_ofNat']
  congr 1
  omega)
 exact ⟨bs, by rw [hbs, bytes_len] at hlen; exact hlen, hbs⟩
theorem dig_of_trod {fuel : Nat} {cs : List Value} {d : DataW H} {ps : List MemPlace} (hf : DataW.trod enc Tryz.prog w base sp held fuel 40 cs = some (d, ps)) : ∃ bs : B, bs.length = 32 ∧ cs = Lib.byteCells bs :=
 bytes_of_trod Tryz.underlying40 Tryz.underlying5 (by kernel_rfl) (by kernel_rfl) hf
theorem piece_of_trod {fuel : Nat} {cs : List Value} {d : DataW H} {ps : List MemPlace} (hf : DataW.trod enc Tryz.prog w base sp held fuel 42 cs = some (d, ps)) : ∃ p : Pc, PcOk p ∧ cs = pcV p := by
 cases fuel with
 | zero => simp [DataW.trod] at hf
 | succ fuel =>
 simp only [DataW.trod, Tryz.underlying42] at hf
 split at hf
 · rename_i hlen
   obtain ⟨xs, hm, hx⟩ := Option.map_eq_some_iff.1 hf
   have hl := mapM_length hm
   obtain ⟨b0, e0, t0⟩ := mapM_at hm 0 _ rfl
   obtain ⟨b1, e1, t1⟩ := mapM_at hm 1 _ rfl
   have hc : cs.length = 33 := hlen.trans (by kernel_rfl)
   have k0 : Tryz.prog.cellsOf 40 = 32 := by kernel_rfl
   have k1 : Tryz.prog.cellsOf 2 = 1 := by kernel_rfl
   simp only [k0, k1, List.drop_zero] at t0 t1
   obtain ⟨bs, hb, hcs0⟩ := dig_of_trod (ps := b0.2) (d := b0.1) t0
   obtain ⟨n1, c1, _, hw1⟩ := DataW.trod_int Tryz.underlying2 t1
   have hw : -9223372036854775808 ≤ n1 ∧ n1 ≤ 9223372036854775807 := by
    have h0 : IntKind.i64.min = -9223372036854775808 := rfl
    have h1 : IntKind.i64.max = 9223372036854775807 := rfl
    simp [Lit.wf] at hw1
    omega
   refine ⟨⟨bs, n1⟩, ⟨hb, hw⟩, ?_⟩
   unfold pcV
   rw [← hcs0, ← c1]
   have h1 : (cs.drop 32).take 1 = cs.drop 32 := List.take_of_length_le (by rw [List.length_drop, hc]; decide)
   rw [h1, List.take_append_drop]
 · cases hf
theorem pieces_of (g : Nat) : ∀ (rows : List (List Value)) (ds : List (DataW H)), (∀ i, i < rows.length → ∃ ps', DataW.trod enc Tryz.prog w base sp held g 42 (rows.getD i []) = some (ds.getD i .nil, ps')) →
  ∃ l : List Pc, l.length = rows.length ∧ pcC l = rows.flatten ∧ ∀ p ∈ l, PcOk p
 | [], _, _ => ⟨[], rfl, rfl, fun _ h => by cases h⟩
 | r :: rows, ds, h => by
  obtain ⟨ps', h0⟩ := h 0 (by simp)
  simp only [List.getD_cons_zero] at h0
  obtain ⟨p, hp, rfl⟩ := piece_of_trod h0
  obtain ⟨l, e1, e2, e3⟩ := pieces_of g rows (ds.drop 1) (fun i hi => by
   obtain ⟨q, hq⟩ := h (i + 1) (by simpa using hi)
   simp only [List.getD_cons_succ] at hq
   refine ⟨q, ?_⟩
   have e : (ds.drop 1).getD i .nil = ds.getD (i + 1) .nil := by cases ds <;> simp [List.getD]
   rw [e]; exact hq)
  exact ⟨p :: l, by simp [e1], by rw [List.flatten_cons, ← e2]; rfl, fun x hx => by
   rcases List.mem_cons.1 hx with rfl | hx
   · exact hp
   · exact e3 x hx⟩
theorem mf_of_trod {fuel : Nat} {cs : List Value} {d : DataW H} {ps : List MemPlace} (hf : DataW.trod enc Tryz.prog w base sp held fuel 45 cs = some (d, ps)) :
   ∃ (m : Mf) (A : Option Addr) (c : Nat), MfOk m ∧ cs = pcV m.cfg ++ [Value.slice A m.layers.length c] ∧ Reads w w.heap.size 33 A m.layers.length (pcC m.layers) := by
 cases fuel with
 | zero => simp [DataW.trod] at hf
 | succ fuel =>
 simp only [DataW.trod, Tryz.underlying45] at hf
 split at hf
 · rename_i hlen
   obtain ⟨xs, hm, hx⟩ := Option.map_eq_some_iff.1 hf
   obtain ⟨b0, e0, t0⟩ := mapM_at hm 0 _ rfl
   obtain ⟨b1, e1, t1⟩ := mapM_at hm 1 _ rfl
   have hc : cs.length = 34 := hlen.trans (by kernel_rfl)
   have k0 : Tryz.prog.cellsOf 42 = 33 := by kernel_rfl
   have k1 : Tryz.prog.cellsOf 43 = 1 := by kernel_rfl
   simp only [k0, k1, List.drop_zero] at t0 t1
   obtain ⟨p, hp, hcs0⟩ := piece_of_trod (ps := b0.2) (d := b0.1) t0
   obtain ⟨A, n, c, g, rows, ds, hcs1, r1, r2, r3, r4, _⟩ := rows_of_trodC (ps := b1.2) (d := b1.1) Tryz.underlying43 k0 (by decide) t1
   obtain ⟨l, l1, l2, l3⟩ := pieces_of g rows ds (fun i hi => r3 i (by omega))
   have hn : l.length = n := l1.trans r1
   subst hn
   refine ⟨⟨p, l⟩, A, c, ⟨hp, l3⟩, ?_, by rw [l2]; exact r4⟩
   show cs = pcV p ++ [Value.slice A l.length c]
   rw [← hcs0, ← hcs1]
   have h1 : (cs.drop 33).take 1 = cs.drop 33 := List.take_of_length_le (by rw [List.length_drop, hc]; decide)
   rw [h1, List.take_append_drop]
 · cases hf
set_option maxRecDepth 100000 in
theorem open_mf {v : Value} {d : DataW H} {ps : List MemPlace} {r : Reach} {b0 : Nat} (hv : Value.okWide Tryz.prog w r b0 45 v) (h : DataW.Trod enc Tryz.prog w base sp held 45 v d ps) :
  ∃ (m : Mf) (A : Option Addr) (c : Nat), MfOk m ∧ v = .agg (pcV m.cfg ++ [Value.slice A m.layers.length c]).toArray ∧ Reads w w.heap.size 33 A m.layers.length (pcC m.layers) := by
 simp only [Value.okWide, Tryz.underlying45] at hv
 obtain ⟨cs, rfl, _⟩ := hv
 obtain ⟨fuel, hf⟩ := h
 obtain ⟨m, A, c, h1, h2, h3⟩ := mf_of_trod hf
 refine ⟨m, A, c, h1, ?_, h3⟩
 simp only [Value.cells] at h2
 rw [← h2]
end
end Js.Cf
end Go.Proofs.YtjohdaobhonioaaGreatDoor
