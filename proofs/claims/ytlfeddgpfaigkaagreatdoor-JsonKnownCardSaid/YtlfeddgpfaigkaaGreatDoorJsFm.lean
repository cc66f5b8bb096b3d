/-
  The walk of the law JsonForm at this seat's translation, for every text.
-/
import Derived.Test.YtlfeddgpfaigkaaGreatDoorJsWk
import Derived.Test.YtlfeddgpfaigkaaGreatDoorJsLw
import Derived.Test.YtlfeddgpfaigkaaGreatDoorJsWp
namespace Go.Proofs.YtlfeddgpfaigkaaGreatDoor
open Go.RowKit
namespace Js
theorem neq_nil (T : TypeId) (v : Value) (wx : World) : (binOp .neq 31 (.iface T v) .nilIface).run Tryz.prog wx = .ok (.bool true) wx := by kernel_rfl
-- <
set_option maxHeartbeats 4000000 in
set_option maxRecDepth 100000 in
theorem jsonForm_any (s : List UInt8) (hsl : s.length ≤ 9223372036854775807) (w : World) (hst : St w) : Calls Tryz.prog 6 #[.string ⟨s.toArray⟩] w fun x w' => x = .returned (.bool true) ∧ Below w.heap.size w w' := by
  have HST := Lib.hid hst
  have HP := Lib.hid (parse_any s w hst)
  clear hst
  have hnn := neq_nil
  go_enter Tryz.func6, Tryz.ntmps6
  go_wp2_with fail
  refine HP.out.mono ?_
  clear HP
  cases hp : parse s with
  | err no r =>
    rintro x w1 hx
    unfold PaPost at hx
    rw [hp] at hx
    obtain ⟨a, ha, rfl, hb1⟩ := hx
    obtain ⟨n1, n2, _⟩ := parse_err hp
    have HB1 := Lib.hid hb1
    clear hb1 hp
    have hal : (a : Int) ≤ (s.length : Int) := by omega
    have ha63 : a ≤ 9223372036854775807 := by omega
    unfold zeroJ faultV
    obtain ⟨w2, hw2⟩ : ∃ w2, w2 = w1.alloc (.cells #[.int .i64 0, .int .i64 0, .string .empty, .slice none 0 0, .slice none 0 0] 25) := ⟨_, rfl⟩
    have HB2 : Hid (Below w.heap.size w w2) := Lib.hid (by rw [hw2]; exact HB1.out.alloc HB1.out.size _)
    have HPL := Lib.hid (Err.place_fault no 0 a n1 (by omega) w2 (HST.out.below HB2.out).err)
    go_wp2_with fail
    rw [← hw2]
    clear hw2
    refine HPL.out.mono ?_
    rintro x w3 ⟨rfl, hb3⟩
    have HB3 : Hid (Below w.heap.size w w3) := Lib.hid (HB2.out.trans (hb3.mono HB2.out.size))
    clear hb3 HPL
    have HWK := Lib.hid (works_any w3 (HST.out.below HB3.out))
    go_wp2_with fail
    refine HWK.out.mono ?_
    rintro x w4 ⟨rfl, hb4⟩
    have HB4 : Hid (Below w.heap.size w w4) := Lib.hid (HB3.out.trans (hb4.mono HB3.out.size))
    clear hb4 HWK
    go_wp2
    go_ret
    exact ⟨rfl, HB4.out⟩
  | ok h k r =>
    rintro x w1 hx
    unfold PaPost at hx
    rw [hp] at hx
    obtain ⟨iv, kv, bs, rfl, hot, _, hb1⟩ := hx
    obtain ⟨⟨A1, c1, rfl⟩, A2, c2, rfl⟩ := ot_form hot
    obtain ⟨hok, hak⟩ := parse_okh hp
    obtain ⟨g1, g2, g3, g4, g5, g6⟩ := parse_good hp
    have HB1 := Lib.hid hb1
    have HG := Lib.hid g3
    have HL := Lib.hid g6
    have HN := Lib.hid (And.intro g4 g5)
    have HTV1 : Hid (TV encJ w1 (· ∈ bs) h k (jcells h (.slice A1 k.len c1) (.slice A2 h.keys.length c2))) := Lib.hid (hot.tr rfl).tv
    have HSS : Hid (∀ b ∈ bs, b < w1.heap.size) := Lib.hid (fun b hb => (hot.lt b hb).2)
    obtain ⟨w2, hw2⟩ : ∃ w2, w2 = w1.alloc (.cells #[.int .i64 h.kind, .int .i64 h.num, .string ⟨h.text.toArray⟩, .slice A1 k.len c1, .slice A2 h.keys.length c2] 25) := ⟨_, rfl⟩
    have hb12 : Below w1.heap.size w1 w2 := by rw [hw2]; exact (Below.refl _ _).alloc (Nat.le_refl _) _
    have HV2 : Hid (Blk w2 w1.heap.size 25 #[.int .i64 h.kind, .int .i64 h.num, .string ⟨h.text.toArray⟩, .slice A1 k.len c1, .slice A2 h.keys.length c2]) := Lib.hid (by rw [hw2]; exact Blk.new _ _ _)
    have HB2 : Hid (Below w.heap.size w w2) := Lib.hid (HB1.out.trans (hb12.mono HB1.out.size))
    have HTV2 : Hid (TV encJ w2 (· ∈ bs) h k (jcells h (.slice A1 k.len c1) (.slice A2 h.keys.length c2))) := Lib.hid (HTV1.out.kept fun p hp => hb12.cell (HSS.out _ hp))
    have HSS2 : Hid (∀ b ∈ bs, b < w2.heap.size) := Lib.hid (fun b hb => by have := HSS.out b hb; have := hb12.size; omega)
    have HPR := Lib.hid (print_any h k _ _ _ w2 hok hak HTV2.out HSS2.out (HST.out.below HB2.out) (fun _ => by omega))
    have hs4 : s.length ≤ 4194304 := g1
    clear hot hb1 hb12 HTV1 HSS g3 g4 g5 g6 hok hak g1
    go_wp2_with fail
    rw [← hw2]
    clear hw2
    refine HPR.out.mono ?_
    rintro x w3 ⟨hb3, hx⟩
    have HB23 := Lib.hid hb3
    have HB3 : Hid (Below w.heap.size w w3) := Lib.hid (HB2.out.trans (hb3.mono HB2.out.size))
    have HV3 := Lib.hid (HV2.out.below hb3 HV2.out.lt)
    clear hb3 HPR
    rcases hx with ⟨h0, rfl⟩ | ⟨h0, rfl⟩
    · have HFL : Hid ((form h k).length ≤ 4194304) := Lib.hid (by
        unfold printed at h0
        rw [if_neg (by rw [HG.out]; simp)] at h0
        by_cases hl : 4194304 < (form h k).length
        · rw [if_pos hl] at h0; cases h0
        · omega)
      obtain ⟨pa, wf1, wf2, lk⟩ := parse_again HG.out HN.out.1 HN.out.2 HFL.out
      have HGE : Hid (∀ c ∈ form h k, 32 ≤ c.toNat) := Lib.hid (form_ge h k)
      have HPA : Hid (parse (form h k) = .ok (norm h k).1 (norm h k).2 []) := Lib.hid pa
      have HWF := Lib.hid (And.intro wf1 wf2)
      have HLK := Lib.hid lk
      clear h0 pa wf1 wf2 lk hp
      generalize form h k = t at HFL HGE HPA
      go_wp2_with fail
      go_loopw [10] (fun i wr => ∃ j : Nat, j ≤ t.length ∧ i = .int .i64 j ∧ wr = w3) (fun i _ => t.length - (intOf i).toNat)
      case atStart => exact ⟨0, by omega, rfl, rfl⟩
      case round =>
        obtain ⟨j, hj, rfl, hwr⟩ := hrel
        subst hwr
        have hflb := HFL.out
        by_cases hlt : j < t.length
        · have hidx := run_index_list Tryz.underlying9 t j hlt
          have hge : 32 ≤ (t.getD j 0).toNat := HGE.out _ (by simp [List.getD, List.getElem?_eq_getElem hlt])
          generalize t.getD j 0 = c at hidx hge
          have hc32 : ((c.toNat : Int) < 32) = False := eq_false (by omega)
          go_wp2_with fail
          refine ⟨⟨j + 1, by omega, by push_cast; rfl, trivial⟩, ?_⟩
          show t.length - ((j : Int) + 1).toNat < t.length - ((j : Int)).toNat
          omega
        · have HP2 := Lib.hid (parse_any t wr (HST.out.below HB3.out))
          go_wp2_with fail
          refine HP2.out.mono ?_
          rintro x w4 hx
          unfold PaPost at hx
          rw [HPA.out] at hx
          obtain ⟨iv, kv, bs', rfl, hot, _, hb4⟩ := hx
          obtain ⟨⟨A3, c3, rfl⟩, A4, c4, rfl⟩ := ot_form hot
          have HB4 : Hid (Below w.heap.size w w4) := Lib.hid (HB3.out.trans (hb4.mono HB3.out.size))
          have HV4 := Lib.hid (HV3.out.below hb4 HV3.out.lt)
          have HTV4 : Hid (TV encJ w4 (· ∈ bs) h k (jcells h (.slice A1 k.len c1) (.slice A2 h.keys.length c2))) := Lib.hid (HTV2.out.kept fun p hp => (HB23.out.trans (hb4.mono HB23.out.size)).cell (HSS2.out _ hp))
          have HSS4 : Hid (∀ b ∈ bs, b < w4.heap.size) := Lib.hid (fun b hb => by have := HSS2.out b hb; have := HB23.out.size; have := hb4.size; omega)
          have HTN4 : Hid (TV encJ w4 (· ∈ bs') (norm h k).1 (norm h k).2 (jcells (norm h k).1 (.slice A3 (norm h k).2.len c3) (.slice A4 (norm h k).1.keys.length c4))) := Lib.hid (hot.tr rfl).tv
          have HSN4 : Hid (∀ b ∈ bs', b < w4.heap.size) := Lib.hid (fun b hb => (hot.lt b hb).2)
          clear hot hb4 HP2 HTV2 HSS2 HB23 HV3 HB3
          generalize (norm h k).1 = h' at HLK HWF HTN4 ⊢
          generalize (norm h k).2 = k' at HLK HWF HTN4 ⊢
          obtain ⟨w5, hw5⟩ : ∃ w5, w5 = w4.alloc (.cells #[.int .i64 h'.kind, .int .i64 h'.num, .string ⟨h'.text.toArray⟩, .slice A3 k'.len c3, .slice A4 h'.keys.length c4] 25) := ⟨_, rfl⟩
          have hb45 : Below w4.heap.size w4 w5 := by rw [hw5]; exact (Below.refl _ _).alloc (Nat.le_refl _) _
          have HV5 := Lib.hid (HV4.out.below hb45 HV4.out.lt)
          have HN5 : Hid (Blk w5 w4.heap.size 25 #[.int .i64 h'.kind, .int .i64 h'.num, .string ⟨h'.text.toArray⟩, .slice A3 k'.len c3, .slice A4 h'.keys.length c4]) := Lib.hid (by rw [hw5]; exact Blk.new _ _ _)
          have HB5 : Hid (Below w.heap.size w w5) := Lib.hid (HB4.out.trans (hb45.mono HB4.out.size))
          have HCL := Lib.hid (likes_any k.sz h h' k k' _ _ _ _ _ _ w5 (Nat.le_refl _) HLK.out HWF.out.1 HWF.out.2 (HTV4.out.kept fun p hp => hb45.cell (HSS4.out _ hp)) (HTN4.out.kept fun p hp => hb45.cell (HSN4.out _ hp)) (fun b hb => by have := HSS4.out b hb; have := hb45.size; omega) (fun b hb => by have := HSN4.out b hb; have := hb45.size; omega))
          clear HTV4 HSS4 HTN4 HSN4 HV4 hb45
          go_upto_region 14 with fail
          rw [← hw5]
          clear hw5
          have x0 := HV5.out.cell 0
          have x1 := HV5.out.cell 1
          have x2 := HV5.out.cell 2
          have x3 := HV5.out.cell 3
          have x4 := HV5.out.cell 4
          have y0 := HN5.out.cell 0
          have y1 := HN5.out.cell 1
          have y2 := HN5.out.cell 2
          have y3 := HN5.out.cell 3
          have y4 := HN5.out.cell 4
          go_wp2_with fail
          refine HCL.out.mono ?_
          rintro x w6 ⟨rfl, hb6⟩
          have HB6 : Hid (Below w.heap.size w w6) := Lib.hid (HB5.out.trans (hb6.mono HB5.out.size))
          clear hb6 HCL x0 x1 x2 x3 x4 y0 y1 y2 y3 y4
          have HWK := Lib.hid (works_any w6 (HST.out.below HB6.out))
          go_wp2_with fail
          refine HWK.out.mono ?_
          rintro x w7 ⟨rfl, hb7⟩
          have HB7 : Hid (Below w.heap.size w w7) := Lib.hid (HB6.out.trans (hb7.mono HB6.out.size))
          clear hb7 HWK
          go_wp2
          go_ret
          exact ⟨rfl, HB7.out⟩
    · have hl : 4194304 < (form h k).length := by
        unfold printed at h0
        rw [if_neg (by rw [HG.out]; simp)] at h0
        by_cases hl : 4194304 < (form h k).length
        · exact hl
        · rw [if_neg hl] at h0; exact absurd rfl h0
      have h5 : (printed h k).2 = 5 := by
        unfold printed
        rw [if_neg (by rw [HG.out]; simp), if_pos hl]
      rw [h5]
      have hsg : ((699050 : Int) < (s.length : Int)) = True := eq_true (by have := HL.out; omega)
      have HPLN := Lib.hid (Err.plain_errno 5 5 (by decide) (by decide) w3 (HST.out.below HB3.out).err)
      unfold errnoV
      clear h0 h5 hl
      go_wp2_with fail
      refine HPLN.out.mono ?_
      rintro x w4 ⟨rfl, hb4⟩
      have HB4 : Hid (Below w.heap.size w w4) := Lib.hid (HB3.out.trans (hb4.mono HB3.out.size))
      clear hb4 HPLN
      have HWK := Lib.hid (works_any w4 (HST.out.below HB4.out))
      go_wp2_with fail
      refine HWK.out.mono ?_
      rintro x w5 ⟨rfl, hb5⟩
      have HB5 : Hid (Below w.heap.size w w5) := Lib.hid (HB4.out.trans (hb5.mono HB4.out.size))
      clear hb5 HWK
      go_wp2
      go_ret
      exact ⟨rfl, HB5.out⟩
-- >
end Js
end Go.Proofs.YtlfeddgpfaigkaaGreatDoor
