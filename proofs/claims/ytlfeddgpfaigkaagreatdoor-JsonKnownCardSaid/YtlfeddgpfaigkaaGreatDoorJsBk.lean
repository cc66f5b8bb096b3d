/-
  The walk of the law JsonBack at this seat's translation, for every value of at most 2^20 values and letters.
-/
import Derived.Test.YtlfeddgpfaigkaaGreatDoorJsWg
import Derived.Test.YtlfeddgpfaigkaaGreatDoorJsFm
namespace Go.Proofs.YtlfeddgpfaigkaaGreatDoor
open Go.RowKit
namespace Js
theorem sumL_zip : ∀ (a b : List (List UInt8)), sumL ((a.zip b).map member) ≤ 6 * total a + 3 * a.length + sumL b
  | [], b => by simp [sumL]
  | x :: a, [] => by simp [sumL]
  | x :: a, y :: b => by
    have ih := sumL_zip a b
    have h1 := member_len (x, y)
    simp only at h1
    rw [List.zip_cons_cons, List.map_cons, sumL_cons, sumL_cons, List.length_cons]
    have e : total (x :: a) = x.length + total a := by simp [total]
    rw [e]
    omega
theorem form_one {h : Hd} {k : F} (hn : NumOk h) (hk : sumL (forms k) + 4 * k.len ≤ 30 * k.mass) : (form h k).length + 4 ≤ 30 * (1 + h.text.length + (total h.keys + h.keys.length) + k.mass) := by
  obtain ⟨n1, n2⟩ := hn
  unfold form formH
  split
  · simp only [List.length_cons, List.length_nil]; omega
  split
  · simp only [List.length_cons, List.length_nil]; omega
  split
  · simp only [List.length_cons, List.length_nil]; omega
  split
  · have : (decI h.num).length ≤ 21 := by
      unfold decI Lib.itoa
      split
      · have := dec_len (n := h.num.natAbs) (by omega); simp; omega
      · have := dec_len (n := h.num.toNat) (by omega); omega
    omega
  split
  · have := quoted_len h.text; omega
  split
  · rw [List.length_cons, List.length_append, commas_len, forms_len]
    simp only [List.length_cons, List.length_nil]
    omega
  · rw [List.length_cons, List.length_append, commas_len, List.length_map, (sortK_perm _).length_eq, List.length_zip, forms_len]
    have h1 := sumL_perm ((sortK_perm (h.keys.zip (forms k))).map member)
    have h2 := sumL_zip h.keys (forms k)
    simp only [List.length_cons, List.length_nil]
    rw [h1]
    have h3 : min h.keys.length k.len ≤ h.keys.length := Nat.min_le_left _ _
    omega
theorem forms_mass : ∀ f : F, f.All NumOk → sumL (forms f) + 4 * f.len ≤ 30 * f.mass := by
  intro f
  induction f with
  | nil => intro _; simp [forms, sumL, F.len, F.mass]
  | cons h k r ih1 ih2 =>
    intro hn
    have h1 := form_one hn.1 (ih1 hn.2.1)
    have h2 := ih2 hn.2.2
    have e : forms (.cons h k r) = form h k :: forms r := rfl
    rw [e, sumL_cons]
    simp only [F.len, F.mass]
    omega
theorem form_mass {h : Hd} {k : F} (hn : NumOk h) (hk : k.All NumOk) : (form h k).length ≤ 30 * (F.cons h k .nil).mass := by
  have := form_one hn (forms_mass k hk)
  simp only [F.mass]
  omega
-- <
set_option maxHeartbeats 4000000 in
set_option maxRecDepth 100000 in
theorem jsonBack_any (h : Hd) (k : F) (iv kv : Value) (w : World) (hm : (F.cons h k .nil).mass ≤ 1048576) (hn : NumOk h) (hkn : k.All NumOk) (htv : TV encJ w (· < w.heap.size) h k (jcells h iv kv)) (hst : St w) :
    Calls Tryz.prog 5 #[.agg #[.int .i64 h.kind, .int .i64 h.num, .string ⟨h.text.toArray⟩, iv, kv]] w fun x w' => x = .returned (.bool true) ∧ Below w.heap.size w w' := by
  obtain ⟨A1, c1, A2, c2, us, rfl, rfl, _⟩ := tv_parts htv
  have hfit := F.fit_mass (B := 1048576) (by decide) (.cons h k .nil) hm
  have HOK : Hid (Okh h ∧ k.All Okh) := Lib.hid ⟨⟨hfit.1, hn⟩, All_and hfit.2.1 hkn⟩
  have HNN := Lib.hid (And.intro hn hkn)
  have HFB : Hid ((form h k).length ≤ 1099511627776) := Lib.hid (by have := form_mass hn hkn; omega)
  obtain ⟨wz, hwz⟩ : ∃ wz, wz = w.alloc (.cells #[.int .i64 h.kind, .int .i64 h.num, .string ⟨h.text.toArray⟩, .slice A1 k.len c1, .slice A2 h.keys.length c2] 25) := ⟨_, rfl⟩
  have HBA : Hid (Blk wz w.heap.size 25 #[.int .i64 h.kind, .int .i64 h.num, .string ⟨h.text.toArray⟩, .slice A1 k.len c1, .slice A2 h.keys.length c2]) := Lib.hid (by rw [hwz]; exact Blk.new _ _ _)
  have HZ : Hid (Below w.heap.size w wz ∧ w.heap.size < wz.heap.size) := Lib.hid (by rw [hwz]; exact ⟨(Below.refl _ _).alloc (Nat.le_refl _) _, by simp⟩)
  have HTV := Lib.hid htv
  have HTVX : Hid (∀ wx, Below w.heap.size w wx → TV encJ wx (· < w.heap.size) h k (jcells h (.slice A1 k.len c1) (.slice A2 h.keys.length c2))) := Lib.hid (fun wx hb => HTV.out.kept fun p hp => hb.cell hp)
  have HST := Lib.hid hst
  have HG := Lib.hid (great_any h k _ _ (· < w.heap.size) wz hm (HTVX.out wz HZ.out.1) (fun b hb => by have := HZ.out.2; omega))
  have hnn := neq_nil
  clear hfit hn hkn htv hst hm
  go_enter Tryz.func5, Tryz.ntmps5
  go_wp2_with fail
  rw [← hwz]
  clear hwz
  refine HG.out.mono ?_
  rintro x w1 ⟨b, rfl, hb1⟩
  have HB1 := Lib.hid (HBA.out.below hb1 HBA.out.lt)
  have HW1 : Hid (Below w.heap.size w w1) := Lib.hid (HZ.out.1.trans (hb1.mono HZ.out.1.size))
  clear hb1 HG
  have d0 := HB1.out.cell 0
  have d1 := HB1.out.cell 1
  have d2 := HB1.out.cell 2
  have d3 := HB1.out.cell 3
  have d4 := HB1.out.cell 4
  cases b
  · have HPR := Lib.hid (print_any h k _ _ (· < w.heap.size) w1 HOK.out.1 HOK.out.2 (HTVX.out w1 HW1.out) (fun b hb => by have := HW1.out.size; omega) (HST.out.below HW1.out) (fun _ => HFB.out))
    go_wp2_with fail
    refine HPR.out.mono ?_
    rintro x w2 ⟨hb2, hx⟩
    have HB2 := Lib.hid (HB1.out.below hb2 HB1.out.lt)
    have HW2 : Hid (Below w.heap.size w w2) := Lib.hid (HW1.out.trans (hb2.mono HW1.out.size))
    clear hb2 HPR d0 d1 d2 d3 d4 HB1
    rcases hx with ⟨h0, rfl⟩ | ⟨h0, rfl⟩
    · have HWR : Hid (wrongs 1 h k = 0) := Lib.hid (by
        unfold printed at h0
        by_cases e : wrongs 1 h k = 0
        · exact e
        · rw [if_pos e] at h0; exact h0)
      have HFL : Hid ((form h k).length ≤ 4194304) := Lib.hid (by
        unfold printed at h0
        rw [if_neg (by rw [HWR.out]; simp)] at h0
        by_cases hl : 4194304 < (form h k).length
        · rw [if_pos hl] at h0; cases h0
        · omega)
      obtain ⟨pa, wf1, wf2, lk⟩ := parse_again HWR.out HNN.out.1 HNN.out.2 HFL.out
      obtain ⟨pn, pw⟩ := printed_norm HWR.out HNN.out.1 HNN.out.2 HFL.out
      have HPA : Hid (parse (form h k) = .ok (norm h k).1 (norm h k).2 []) := Lib.hid pa
      have HOKN := Lib.hid (parse_okh pa)
      have HWF := Lib.hid (And.intro wf1 wf2)
      have HLK := Lib.hid lk
      have HPN := Lib.hid pn
      have HFN : Hid (form (norm h k).1 (norm h k).2 = form h k) := Lib.hid (form_norm HWR.out)
      have HRI := Lib.hid (norm_rise HWR.out)
      clear h0 pa wf1 wf2 lk pn pw HWR
      generalize form h k = t at HFL HPA HFN HFB
      have HP2 := Lib.hid (parse_any t w2 (HST.out.below HW2.out))
      go_wp2_with fail
      refine HP2.out.mono ?_
      rintro x w3 hx
      unfold PaPost at hx
      rw [HPA.out] at hx
      obtain ⟨iv, kv, bs, rfl, hot, _, hb3⟩ := hx
      obtain ⟨⟨A3, c3, rfl⟩, A4, c4, rfl⟩ := ot_form hot
      have HW3 : Hid (Below w.heap.size w w3) := Lib.hid (HW2.out.trans (hb3.mono HW2.out.size))
      have HB3 := Lib.hid (HB2.out.below hb3 HB2.out.lt)
      have HTN3 : Hid (TV encJ w3 (· ∈ bs) (norm h k).1 (norm h k).2 (jcells (norm h k).1 (.slice A3 (norm h k).2.len c3) (.slice A4 (norm h k).1.keys.length c4))) := Lib.hid (hot.tr rfl).tv
      have HSN3 : Hid (∀ b ∈ bs, b < w3.heap.size) := Lib.hid (fun b hb => (hot.lt b hb).2)
      clear hot hb3 HP2 HB2 HPA
      generalize (norm h k).1 = h' at HLK HWF HTN3 HOKN HPN HFN HRI ⊢
      generalize (norm h k).2 = k' at HLK HWF HTN3 HOKN HPN HFN HRI ⊢
      obtain ⟨w4, hw4⟩ : ∃ w4, w4 = w3.alloc (.cells #[.int .i64 h'.kind, .int .i64 h'.num, .string ⟨h'.text.toArray⟩, .slice A3 k'.len c3, .slice A4 h'.keys.length c4] 25) := ⟨_, rfl⟩
      have hb34 : Below w3.heap.size w3 w4 := by rw [hw4]; exact (Below.refl _ _).alloc (Nat.le_refl _) _
      have HB4 := Lib.hid (HB3.out.below hb34 HB3.out.lt)
      have HN4 : Hid (Blk w4 w3.heap.size 25 #[.int .i64 h'.kind, .int .i64 h'.num, .string ⟨h'.text.toArray⟩, .slice A3 k'.len c3, .slice A4 h'.keys.length c4]) := Lib.hid (by rw [hw4]; exact Blk.new _ _ _)
      have HW4 : Hid (Below w.heap.size w w4) := Lib.hid (HW3.out.trans (hb34.mono HW3.out.size))
      have HTN4 := Lib.hid (HTN3.out.kept (w' := w4) fun p hp => hb34.cell (HSN3.out _ hp))
      have HSN4 : Hid (∀ b ∈ bs, b < w4.heap.size) := Lib.hid (fun b hb => by have := HSN3.out b hb; have := hb34.size; omega)
      have HPR2 := Lib.hid (print_any h' k' _ _ (· ∈ bs) w4 HOKN.out.1 HOKN.out.2 HTN4.out HSN4.out (HST.out.below HW4.out) (fun _ => by rw [HFN.out]; have := HFL.out; omega))
      clear HB3 HTN3 HSN3 hb34
      go_upto_region 7 with fail
      rw [← hw4]
      clear hw4
      have y0 := HN4.out.cell 0
      have y1 := HN4.out.cell 1
      have y2 := HN4.out.cell 2
      have y3 := HN4.out.cell 3
      have y4 := HN4.out.cell 4
      go_wp2_with fail
      refine HPR2.out.mono ?_
      rintro x w5 ⟨hb5, hx⟩
      rw [HPN.out] at hx
      obtain rfl : x = .returned (.tuple #[.string ⟨(form h' k').toArray⟩, .nilIface]) := by
        rcases hx with ⟨_, e⟩ | ⟨e, _⟩
        · exact e
        · exact absurd rfl e
      rw [HFN.out]
      have HB5 := Lib.hid (HB4.out.below hb5 HB4.out.lt)
      have HN5 := Lib.hid (HN4.out.below hb5 HN4.out.lt)
      have HW5 : Hid (Below w.heap.size w w5) := Lib.hid (HW4.out.trans (hb5.mono HW4.out.size))
      have HTN5 := Lib.hid (HTN4.out.kept (w' := w5) fun p hp => hb5.cell (HSN4.out _ hp))
      have HSN5 : Hid (∀ b ∈ bs, b < w5.heap.size) := Lib.hid (fun b hb => by have := HSN4.out b hb; have := hb5.size; omega)
      clear hb5 hx HPR2 HB4 HN4 HTN4 HSN4 y0 y1 y2 y3 y4
      have HCL := Lib.hid (likes_any k.sz h h' k k' _ _ _ _ _ _ w5 (Nat.le_refl _) HLK.out HWF.out.1 HWF.out.2 (HTVX.out w5 HW5.out) HTN5.out (fun b hb => by have := HW5.out.size; omega) HSN5.out)
      have x0 := HB5.out.cell 0
      have x1 := HB5.out.cell 1
      have x2 := HB5.out.cell 2
      have x3 := HB5.out.cell 3
      have x4 := HB5.out.cell 4
      have y0 := HN5.out.cell 0
      have y1 := HN5.out.cell 1
      have y2 := HN5.out.cell 2
      have y3 := HN5.out.cell 3
      have y4 := HN5.out.cell 4
      go_wp2_with fail
      refine HCL.out.mono ?_
      rintro x w6 ⟨rfl, hb6⟩
      have HN6 := Lib.hid (HN5.out.below hb6 HN5.out.lt)
      have HW6 : Hid (Below w.heap.size w w6) := Lib.hid (HW5.out.trans (hb6.mono HW5.out.size))
      have HRC := Lib.hid (risesW_any k'.sz h' k' _ _ (· ∈ bs) w6 (Nat.le_refl _) HRI.out.1 HRI.out.2 (HTN5.out.kept fun p hp => hb6.cell (HSN5.out _ hp)) (fun b hb => by have := HSN5.out b hb; have := hb6.size; omega))
      clear hb6 HCL x0 x1 x2 x3 x4 y0 y1 y2 y3 y4
      have y0 := HN6.out.cell 0
      have y1 := HN6.out.cell 1
      have y2 := HN6.out.cell 2
      have y3 := HN6.out.cell 3
      have y4 := HN6.out.cell 4
      go_wp2_with fail
      refine HRC.out.mono ?_
      rintro x w7 ⟨rfl, hb7⟩
      have HW7 : Hid (Below w.heap.size w w7) := Lib.hid (HW6.out.trans (hb7.mono HW6.out.size))
      clear hb7 HRC y0 y1 y2 y3 y4
      have HWK := Lib.hid (works_any w7 (HST.out.below HW7.out))
      go_wp2_with fail
      refine HWK.out.mono ?_
      rintro x w8 ⟨rfl, hb8⟩
      have HW8 : Hid (Below w.heap.size w w8) := Lib.hid (HW7.out.trans (hb8.mono HW7.out.size))
      clear hb8 HWK
      go_wp2
      go_ret
      exact ⟨rfl, HW8.out⟩
    · have HWK := Lib.hid (works_any w2 (HST.out.below HW2.out))
      unfold errnoV
      clear h0
      go_wp2_with fail
      refine HWK.out.mono ?_
      rintro x w3 ⟨rfl, hb3⟩
      have HW3 : Hid (Below w.heap.size w w3) := Lib.hid (HW2.out.trans (hb3.mono HW2.out.size))
      clear hb3 HWK
      go_wp2
      go_ret
      exact ⟨rfl, HW3.out⟩
  · go_wp2
    go_ret
    exact ⟨rfl, HW1.out⟩
-- >
end Js
end Go.Proofs.YtlfeddgpfaigkaaGreatDoor
