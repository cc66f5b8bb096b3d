/-
  The walk of stratalaw04.JsonPrints at this seat.
-/
import Derived.Test.YtlfeddgpfaigkaaGreatDoorJsLt
import Derived.Test.YtlfeddgpfaigkaaGreatDoorJsBz
namespace Go.Proofs.YtlfeddgpfaigkaaGreatDoor
open Go.RowKit Err
namespace Js
theorem own_le (d : Nat) (h : Hd) (n : Nat) : own d h n ≤ 14 := by unfold own; repeat' (first | omega | split)
theorem wrongsF_le : ∀ (f : F) (d : Nat), wrongsF d f ≤ 14
  | .nil, d => by simp [wrongsF]
  | .cons h k r, d => by
    have h1 := own_le d h k.len
    have h2 := wrongsF_le k (d + 1)
    have h3 := wrongsF_le r d
    rw [wrongsF]
    simp only
    split
    · exact h1
    · split
      · split
        · exact h2
        · omega
      · exact h3
theorem wrongs_le (d : Nat) (h : Hd) (k : F) : wrongs d h k ≤ 14 := by
  have h1 := own_le d h k.len
  have h2 := wrongsF_le k (d + 1)
  unfold wrongs
  simp only
  split
  · exact h1
  · split
    · exact h2
    · omega
/-- What Print answers, in the words of the document's answer. -/
theorem prp_plain {h : Hd} {k : F} {w w' : World} {x : Ending} (hp : PrPost h k w x w') :
    ∃ fv, x = .returned (.tuple #[.string ⟨(printed h k).1.toArray⟩, fv]) ∧ Below w.heap.size w w' ∧ ∀ wx, ErrTab wx → Calls Tryz.prog 13 #[fv, .int .i64 ((printed h k).2 : Nat)] wx fun e w' => e = .returned (.bool true) ∧ Below wx.heap.size wx w' := by
  obtain ⟨hb, ⟨h0, rfl⟩ | ⟨h0, rfl⟩⟩ := hp
  · refine ⟨.nilIface, ?_, hb, fun wx _ => ?_⟩
    · have : (printed h k).1 = form h k := by
        unfold printed at h0 ⊢
        split at h0
        · exact absurd h0 ‹_›
        · rename_i e1
          rw [if_neg e1]
          split at h0
          · cases h0
          · rename_i e2; rw [if_neg e2]
      rw [this]
    · rw [h0]
      refine (plain_nil 0 wx).mono ?_
      rintro e w' ⟨rfl, hb⟩
      exact ⟨rfl, hb⟩
  · have h1 : (printed h k).1 = [] ∧ (printed h k).2 ≤ 32 := by
      unfold printed at h0 ⊢
      split
      · exact ⟨rfl, by have := wrongs_le 1 h k; show wrongs 1 h k ≤ 32; omega⟩
      · split
        · exact ⟨rfl, by show 5 ≤ 32; omega⟩
        · rename_i e1 e2; rw [if_neg e1, if_neg e2] at h0; exact absurd rfl h0
    refine ⟨errnoV (printed h k).2, by rw [h1.1]; rfl, hb, fun wx ht => ?_⟩
    refine (plain_errno (printed h k).2 (printed h k).2 (by omega) h1.2 wx ht).mono ?_
    rintro e w' ⟨rfl, hb⟩
    exact ⟨by simp, hb⟩
-- <
set_option maxHeartbeats 6400000 in
set_option maxRecDepth 100000 in
theorem jsonPrints_any (h : Hd) (k : F) (iv kv : Value) (h' : Hd) (k' : F) (iv' kv' : Value) (w : World) (hm : (F.cons h k .nil).mass + (F.cons h' k' .nil).mass ≤ 1048576) (hn : NumOk h) (hkn : k.All NumOk) (hn' : NumOk h') (hkn' : k'.All NumOk)
    (htv : TV encJ w (· < w.heap.size) h k (jcells h iv kv)) (htv' : TV encJ w (· < w.heap.size) h' k' (jcells h' iv' kv')) (hst : St w) :
    Calls Tryz.prog 3 #[.agg #[.int .i64 h.kind, .int .i64 h.num, .string ⟨h.text.toArray⟩, iv, kv], .agg #[.int .i64 h'.kind, .int .i64 h'.num, .string ⟨h'.text.toArray⟩, iv', kv']] w fun x w' => x = .returned (.bool true) ∧ Below w.heap.size w w' := by
  obtain ⟨A1, c1, A2, c2, us, rfl, rfl, _⟩ := tv_parts htv
  obtain ⟨A3, c3, A4, c4, us', rfl, rfl, _⟩ := tv_parts htv'
  have hfit := F.fit_mass (B := 1048576) (by decide) (.cons h k .nil) (by omega)
  have hfit' := F.fit_mass (B := 1048576) (by decide) (.cons h' k' .nil) (by omega)
  have HOK : Hid (Okh h ∧ k.All Okh) := Lib.hid ⟨⟨hfit.1, hn⟩, All_and hfit.2.1 hkn⟩
  have HOK' : Hid (Okh h' ∧ k'.All Okh) := Lib.hid ⟨⟨hfit'.1, hn'⟩, All_and hfit'.2.1 hkn'⟩
  have HFI : Hid (Fit h ∧ NumOk h ∧ k.All Fit ∧ k.All NumOk) := Lib.hid ⟨hfit.1, hn, hfit.2.1, hkn⟩
  have HSZ : Hid (k.sz ≤ 1099511627776) := Lib.hid (by have := k.sz_mass; simp only [F.mass] at hm; omega)
  have HFB : Hid ((form h k).length ≤ 1099511627776) := Lib.hid (by have := form_mass hn hkn; omega)
  have HFB' : Hid ((form h' k').length ≤ 1099511627776) := Lib.hid (by have := form_mass hn' hkn'; omega)
  obtain ⟨b0, hb0⟩ : ∃ b0, b0 = w.heap.size := ⟨_, rfl⟩
  obtain ⟨wz, hwz⟩ : ∃ wz, wz = (w.alloc (.cells #[.int .i64 h.kind, .int .i64 h.num, .string ⟨h.text.toArray⟩, .slice A1 k.len c1, .slice A2 h.keys.length c2] 25)).alloc (.cells #[.int .i64 h'.kind, .int .i64 h'.num, .string ⟨h'.text.toArray⟩, .slice A3 k'.len c3, .slice A4 h'.keys.length c4] 25) := ⟨_, rfl⟩
  have HBA : Hid (Blk wz b0 25 #[.int .i64 h.kind, .int .i64 h.num, .string ⟨h.text.toArray⟩, .slice A1 k.len c1, .slice A2 h.keys.length c2]) := Lib.hid (by rw [hwz, hb0]; exact Blk.alloc (Blk.new _ _ _) _)
  have HBB : Hid (Blk wz (b0 + 1) 25 #[.int .i64 h'.kind, .int .i64 h'.num, .string ⟨h'.text.toArray⟩, .slice A3 k'.len c3, .slice A4 h'.keys.length c4]) := Lib.hid (by
    have := Blk.new (w.alloc (.cells #[.int .i64 h.kind, .int .i64 h.num, .string ⟨h.text.toArray⟩, .slice A1 k.len c1, .slice A2 h.keys.length c2] 25)) 25 #[.int .i64 h'.kind, .int .i64 h'.num, .string ⟨h'.text.toArray⟩, .slice A3 k'.len c3, .slice A4 h'.keys.length c4]
    rw [World.size_alloc] at this
    rw [hwz, hb0]; exact this)
  have HZ : Hid (Below w.heap.size w wz) := Lib.hid (by rw [hwz]; exact ((Below.refl _ _).alloc (Nat.le_refl _) _).alloc (by simp) _)
  have HTV : Hid (∀ wx, Below w.heap.size w wx → TV encJ wx (· < w.heap.size) h k (jcells h (.slice A1 k.len c1) (.slice A2 h.keys.length c2)) ∧ ∀ b, b < w.heap.size → b < wx.heap.size) := Lib.hid (fun wx hb => ⟨htv.kept fun p hp => hb.cell hp, fun b hb' => by have := hb.size; omega⟩)
  have HTV' : Hid (∀ wx, Below w.heap.size w wx → TV encJ wx (· < w.heap.size) h' k' (jcells h' (.slice A3 k'.len c3) (.slice A4 h'.keys.length c4)) ∧ ∀ b, b < w.heap.size → b < wx.heap.size) := Lib.hid (fun wx hb => ⟨htv'.kept fun p hp => hb.cell hp, fun b hb' => by have := hb.size; omega⟩)
  have HST : Hid (∀ wx, Below w.heap.size w wx → St wx) := Lib.hid (fun wx hb => hst.below hb)
  have HM := Lib.hid hm
  have HG := Lib.hid (great_any h k _ _ (· < w.heap.size) wz (by omega) (HTV.out wz HZ.out).1 (HTV.out wz HZ.out).2)
  clear hfit hfit' hn hkn hn' hkn' htv htv' hst hm
  have a0 := HBA.out.cell 0
  have a1 := HBA.out.cell 1
  have a2 := HBA.out.cell 2
  have a3 := HBA.out.cell 3
  have a4 := HBA.out.cell 4
  go_enter Tryz.func3, Tryz.ntmps3
  go_upto_region 1 with fail
  rw [← hwz, ← hb0]
  clear hwz hb0
  go_wp2_with fail
  refine HG.out.mono ?_
  rintro x w1 ⟨b, rfl, hb1⟩
  have HA1 := Lib.hid (HBA.out.below hb1 HBA.out.lt)
  have HE1 := Lib.hid (HBB.out.below hb1 HBB.out.lt)
  have HW1 : Hid (Below w.heap.size w w1) := Lib.hid (HZ.out.trans (hb1.mono HZ.out.size))
  clear hb1 HG a0 a1 a2 a3 a4
  cases b
  · have e0 := HE1.out.cell 0
    have e1 := HE1.out.cell 1
    have e2 := HE1.out.cell 2
    have e3 := HE1.out.cell 3
    have e4 := HE1.out.cell 4
    have HG := Lib.hid (great_any h' k' _ _ (· < w.heap.size) w1 (by have := HM.out; omega) (HTV'.out w1 HW1.out).1 (HTV'.out w1 HW1.out).2)
    go_wp2_with fail
    refine HG.out.mono ?_
    rintro x w2 ⟨b, rfl, hb2⟩
    have HA2 := Lib.hid (HA1.out.below hb2 HA1.out.lt)
    have HE2 := Lib.hid (HE1.out.below hb2 HE1.out.lt)
    have HW2 : Hid (Below w.heap.size w w2) := Lib.hid (HW1.out.trans (hb2.mono HW1.out.size))
    clear hb2 HG e0 e1 e2 e3 e4
    cases b
    · have a0 := HA2.out.cell 0
      have a1 := HA2.out.cell 1
      have a2 := HA2.out.cell 2
      have a3 := HA2.out.cell 3
      have a4 := HA2.out.cell 4
      have HPR := Lib.hid (printR_any h k _ _ (· < w.heap.size) w2 HFI.out.1 HFI.out.2.1 HFI.out.2.2.1 HFI.out.2.2.2 HFB.out (HTV.out w2 HW2.out).1 (HTV.out w2 HW2.out).2)
      go_wp2_with fail
      refine HPR.out.mono ?_
      rintro x w3 ⟨rfl, hb3⟩
      have HA3 := Lib.hid (HA2.out.below hb3 HA2.out.lt)
      have HE3 := Lib.hid (HE2.out.below hb3 HE2.out.lt)
      have HW3 : Hid (Below w.heap.size w w3) := Lib.hid (HW2.out.trans (hb3.mono HW2.out.size))
      clear hb3 HPR a0 a1 a2 a3 a4
      have a0 := HA3.out.cell 0
      have a1 := HA3.out.cell 1
      have a2 := HA3.out.cell 2
      have a3 := HA3.out.cell 3
      have a4 := HA3.out.cell 4
      have HLE := Lib.hid (lent_any _ HSZ.out h k _ _ (· < w.heap.size) w3 (Nat.le_refl _) (HTV.out w3 HW3.out).1 (HTV.out w3 HW3.out).2)
      go_wp2_with fail
      refine HLE.out.mono ?_
      rintro x w4 ⟨g, q, g', q', rfl, hlv, hb4⟩
      have HA4 := Lib.hid (HA3.out.below hb4 HA3.out.lt)
      have HE4 := Lib.hid (HE3.out.below hb4 HE3.out.lt)
      have HW4 : Hid (Below w.heap.size w w4) := Lib.hid (HW3.out.trans (hb4.mono HW3.out.size))
      have HLV := Lib.hid hlv
      clear hlv hb4 HLE a0 a1 a2 a3 a4
      go_upto_region 5 with (refine wpList_store_row rfl 25 _ _ rfl _ _ rfl rfl 25 _ (heap_alloc_new _ _) (by kernel_rfl) rfl rfl ?_)
      obtain ⟨w5, hw5⟩ : ∃ w5, w5 = w4.alloc (.cells #[.int .i64 h.kind, .int .i64 h.num, .string ⟨h.text.toArray⟩, .slice (some ⟨g, 0, none⟩) k.len q, .slice (some ⟨g', 0, none⟩) h.keys.length q'] 25) := ⟨_, rfl⟩
      have hb5 : Below w4.heap.size w4 w5 := by rw [hw5]; exact (Below.refl _ _).alloc (Nat.le_refl _) _
      have HN5 : Hid (Blk w5 w4.heap.size 25 #[.int .i64 h.kind, .int .i64 h.num, .string ⟨h.text.toArray⟩, .slice (some ⟨g, 0, none⟩) k.len q, .slice (some ⟨g', 0, none⟩) h.keys.length q']) := Lib.hid (by rw [hw5]; exact Blk.new _ _ _)
      have HA5 := Lib.hid (HA4.out.below hb5 HA4.out.lt)
      have HE5 := Lib.hid (HE4.out.below hb5 HE4.out.lt)
      have HW5 : Hid (Below w.heap.size w w5) := Lib.hid (HW4.out.trans (hb5.mono HW4.out.size))
      have HLV5 : Hid (∀ wx, Below w5.heap.size w5 wx → LV wx (Fresh w3 w4) h k (jcells h (.slice (some ⟨g, 0, none⟩) k.len q) (.slice (some ⟨g', 0, none⟩) h.keys.length q')) ∧ ∀ b, Fresh w3 w4 b → b < wx.heap.size) := Lib.hid (fun wx hb => ⟨HLV.out.kept fun p hp => (hb.cell (Nat.lt_of_lt_of_le hp.2 hb5.size)).trans (hb5.cell hp.2), fun b hb' => by have := hb'.2; have := hb5.size; have := hb.size; omega⟩)
      rw [← hw5]
      clear hw5 hb5 HLV
      have HF5 : Hid (Below w5.heap.size w5 w5) := Lib.hid (Below.refl _ _)
      have y0 := HN5.out.cell 0
      have y1 := HN5.out.cell 1
      have y2 := HN5.out.cell 2
      have y3 := HN5.out.cell 3
      have y4 := HN5.out.cell 4
      have HP5 := Lib.hid (print_any h k _ _ (Fresh w3 w4) w5 HOK.out.1 HOK.out.2 (HLV5.out w5 HF5.out).1.tv (HLV5.out w5 HF5.out).2 (HST.out w5 HW5.out) (fun _ => HFB.out))
      go_wp2_with fail
      refine HP5.out.mono ?_
      rintro x w6 hx
      obtain ⟨f1, rfl, hb6, hpl⟩ := prp_plain hx
      have HPL1 := Lib.hid hpl
      have HA6 := Lib.hid (HA5.out.below hb6 HA5.out.lt)
      have HE6 := Lib.hid (HE5.out.below hb6 HE5.out.lt)
      have HN6 := Lib.hid (HN5.out.below hb6 HN5.out.lt)
      have HW6 : Hid (Below w.heap.size w w6) := Lib.hid (HW5.out.trans (hb6.mono HW5.out.size))
      have HF6 : Hid (Below w5.heap.size w5 w6) := Lib.hid (HF5.out.trans (hb6.mono HF5.out.size))
      clear hb6 hpl hx HP5 y0 y1 y2 y3 y4
      have e0 := HE6.out.cell 0
      have e1 := HE6.out.cell 1
      have e2 := HE6.out.cell 2
      have e3 := HE6.out.cell 3
      have e4 := HE6.out.cell 4
      have HP6 := Lib.hid (print_any h' k' _ _ (· < w.heap.size) w6 HOK'.out.1 HOK'.out.2 (HTV'.out w6 HW6.out).1 (HTV'.out w6 HW6.out).2 (HST.out w6 HW6.out) (fun _ => HFB'.out))
      go_wp2_with fail
      refine HP6.out.mono ?_
      rintro x w7 hx
      obtain ⟨f2, rfl, hb7, _⟩ := prp_plain hx
      have HA7 := Lib.hid (HA6.out.below hb7 HA6.out.lt)
      have HN7 := Lib.hid (HN6.out.below hb7 HN6.out.lt)
      have HW7 : Hid (Below w.heap.size w w7) := Lib.hid (HW6.out.trans (hb7.mono HW6.out.size))
      have HF7 : Hid (Below w5.heap.size w5 w7) := Lib.hid (HF6.out.trans (hb7.mono HF6.out.size))
      clear hb7 hx HP6 e0 e1 e2 e3 e4
      have y0 := HN7.out.cell 0
      have y1 := HN7.out.cell 1
      have y2 := HN7.out.cell 2
      have y3 := HN7.out.cell 3
      have y4 := HN7.out.cell 4
      have HP7 := Lib.hid (print_any h k _ _ (Fresh w3 w4) w7 HOK.out.1 HOK.out.2 (HLV5.out w7 HF7.out).1.tv (HLV5.out w7 HF7.out).2 (HST.out w7 HW7.out) (fun _ => HFB.out))
      go_wp2_with fail
      refine HP7.out.mono ?_
      rintro x w8 hx
      obtain ⟨f3, rfl, hb8, hpl⟩ := prp_plain hx
      have HPL3 := Lib.hid hpl
      have HA8 := Lib.hid (HA7.out.below hb8 HA7.out.lt)
      have HN8 := Lib.hid (HN7.out.below hb8 HN7.out.lt)
      have HW8 : Hid (Below w.heap.size w w8) := Lib.hid (HW7.out.trans (hb8.mono HW7.out.size))
      have HF8 : Hid (Below w5.heap.size w5 w8) := Lib.hid (HF7.out.trans (hb8.mono HF7.out.size))
      clear hb8 hpl hx HP7 y0 y1 y2 y3 y4
      have HQ1 := Lib.hid (HPL1.out w8 (HST.out w8 HW8.out).err)
      have HQ3 : Hid (∀ wx, Below w.heap.size w wx → _) := Lib.hid (fun wx hb => HPL3.out wx (HST.out wx hb).err)
      generalize (printed h k).1 = u
      generalize (printed h k).2 = z at HQ1 HQ3 ⊢
      clear HPL1 HPL3
      go_wp2_with fail
      refine HQ1.out.mono ?_
      rintro x w9 ⟨rfl, hb9⟩
      have HA9 := Lib.hid (HA8.out.below hb9 HA8.out.lt)
      have HN9 := Lib.hid (HN8.out.below hb9 HN8.out.lt)
      have HW9 : Hid (Below w.heap.size w w9) := Lib.hid (HW8.out.trans (hb9.mono HW8.out.size))
      have HF9 : Hid (Below w5.heap.size w5 w9) := Lib.hid (HF8.out.trans (hb9.mono HF8.out.size))
      clear hb9 HQ1
      have HQ4 := Lib.hid (HQ3.out w9 HW9.out)
      go_wp2_with fail
      refine HQ4.out.mono ?_
      rintro x w10 ⟨rfl, hb10⟩
      have HA10 := Lib.hid (HA9.out.below hb10 HA9.out.lt)
      have HN10 := Lib.hid (HN9.out.below hb10 HN9.out.lt)
      have HW10 : Hid (Below w.heap.size w w10) := Lib.hid (HW9.out.trans (hb10.mono HW9.out.size))
      have HF10 : Hid (Below w5.heap.size w5 w10) := Lib.hid (HF9.out.trans (hb10.mono HF9.out.size))
      clear hb10 HQ4 HQ3
      have y0 := HN10.out.cell 0
      have y1 := HN10.out.cell 1
      have y2 := HN10.out.cell 2
      have y3 := HN10.out.cell 3
      have y4 := HN10.out.cell 4
      have a0 := HA10.out.cell 0
      have a1 := HA10.out.cell 1
      have a2 := HA10.out.cell 2
      have a3 := HA10.out.cell 3
      have a4 := HA10.out.cell 4
      have HKP := Lib.hid (kept_any _ h k _ _ _ _ (Fresh w3 w4) (· < w.heap.size) w10 (Nat.le_refl _) (HLV5.out w10 HF10.out).1 (HTV.out w10 HW10.out).1 (HLV5.out w10 HF10.out).2 (HTV.out w10 HW10.out).2)
      go_wp2_with fail
      refine HKP.out.mono ?_
      rintro x w11 ⟨rfl, hb11⟩
      have HW11 : Hid (Below w.heap.size w w11) := Lib.hid (HW10.out.trans (hb11.mono HW10.out.size))
      have HF11 : Hid (Below w5.heap.size w5 w11) := Lib.hid (HF10.out.trans (hb11.mono HF10.out.size))
      clear hb11 HKP y0 y1 y2 y3 y4 a0 a1 a2 a3 a4
      have HWK := Lib.hid (works_any w11 (HST.out w11 HW11.out))
      go_wp2_with fail
      refine HWK.out.mono ?_
      rintro x w12 ⟨rfl, hb12⟩
      have HW12 : Hid (Below w.heap.size w w12) := Lib.hid (HW11.out.trans (hb12.mono HW11.out.size))
      clear hb12 HWK
      go_wp2
      go_ret
      exact ⟨rfl, HW12.out⟩
    · go_wp2
      go_ret
      exact ⟨rfl, HW2.out⟩
  · go_wp2
    go_ret
    exact ⟨rfl, HW1.out⟩
-- >
end Js
end Go.Proofs.YtlfeddgpfaigkaaGreatDoor
