/-
  The walk of stratalaw03.DigestClashes at this seat's translation.
-/
import Derived.Test.YtgjelinnpcekmaaGreatDoorClR
import Derived.Test.YtgjelinnpcekmaaGreatDoorDigY
namespace Go.Proofs.YtgjelinnpcekmaaGreatDoor
open Go.RowKit Sha Plain

set_option maxHeartbeats 4000000 in
theorem digestClashes_any (z : Int) (A : Option Addr) (n c : Nat) (l : List (List UInt8)) (w : World) (hr : Reads w w.heap.size 1 A n (tx l)) (hl : total l + l.length ≤ 1048576) (hk : KTab w) (hrt : RTab w) (hbt : BTab w) (ht : Tab10 w) :
    Calls Tryz.prog 22 #[.int .i64 z, .slice A n c] w fun e w' => e = .returned (.bool true) ∧ Below w.heap.size w w' := by
  have hll : l.length = n := by have := hr.1; rw [tx_length] at this; omega
  have sl := small_texts (show total l ≤ 1048576 by omega)
  have hsl : ∀ p ∈ l, p.length ≤ 16777216 := fun p hp => by have := sl p hp; omega
  have F1 := few_any A n c w.heap.size l w hr (by omega) (fun p hp => by have := sl p hp; omega)
  rw [decide_eq_true (show total l ≤ 1048576 by omega)] at F1
  have HF1 := Lib.hid F1
  have HR := Lib.hid hr
  have HK := Lib.hid hk
  have HRT := Lib.hid hrt
  have HBT := Lib.hid hbt
  have HT := Lib.hid ht
  have HSL := Lib.hid hsl
  have hn : n ≤ 1048576 := by omega
  clear hr hk ht hrt hbt hll sl F1 hl hsl
  go_enter Tryz.func22, Tryz.ntmps22
  go_wp2_with fail
  refine HF1.out.mono ?_
  rintro e w' ⟨rfl, rfl⟩
  clear HF1
  go_wp2_with fail
  refine (refClash_any z A n c l w HR.out (by omega) HSL.out HRT.out HBT.out).mono ?_
  rintro e w1 ⟨i, j, b, rfl, hc1, hb1⟩
  have HC1 := Lib.hid hc1
  have HB1 := Lib.hid hb1
  clear hc1 hb1
  go_wp2_with fail
  refine (lentTexts_any A n c l w1 (HR.out.step (Nat.le_refl _) HB1.out) (by omega)).mono ?_
  rintro e w2 ⟨g, c', rfl, hc', hr2, hb2⟩
  have HC := Lib.hid hc'
  have HR2 := Lib.hid hr2
  have HB2 := Lib.hid (HB1.out.trans (hb2.mono HB1.out.size))
  clear hc' hr2 hb2 HB1
  have HRP := Lib.hid (show Reads w2 w2.heap.size 1 (some ⟨g, 0, none⟩) n (tx l) from by
    have h := HR2.out
    refine ⟨by rw [tx_length]; have := HR.out.1; rw [tx_length] at this; exact this, fun _ => ?_⟩
    obtain ⟨ad, ha, h1, h2⟩ := h.2 (by omega)
    refine ⟨ad, ha, h1, fun j u hu => h2 j u ?_⟩
    rw [tx_append, List.getElem?_append_left (List.getElem?_eq_some_iff.1 hu).1]
    exact hu)
  go_wp2_with fail
  refine (clash_any z (some ⟨g, 0, none⟩) n c' l w2 HRP.out (by omega) HSL.out (HK.out.below HB2.out)).mono ?_
  rintro e w3 ⟨i2, j2, b2, rfl, hc3, hb3⟩
  obtain ⟨rfl, rfl, rfl⟩ := clashIs_one HC1.out hc3
  have HB3 := Lib.hid (HB2.out.trans (hb3.mono HB2.out.size))
  have HR3 := Lib.hid (HR2.out.step (Nat.le_refl _) hb3)
  clear hb3 HB2 HR2 HRP HC1 hc3
  go_wp2_with fail
  refine (keptTexts_any A g n c c' l w3 (HR.out.step (Nat.le_refl _) HB3.out) HC.out HR3.out (by omega)).mono ?_
  rintro e w4 ⟨rfl, hb4⟩
  have HB4 := Lib.hid (HB3.out.trans (hb4.mono HB3.out.size))
  clear hb4 HB3 HR3
  go_wp2_with fail
  refine (works_any w4 (HK.out.below HB4.out) (HT.out.below HB4.out HT.out.lt)).mono ?_
  rintro e w9 ⟨rfl, hb9⟩
  have HB9 := Lib.hid (HB4.out.trans (hb9.mono HB4.out.size))
  clear hb9 HB4
  go_wp2
  go_ret
  exact ⟨rfl, HB9.out⟩
end Go.Proofs.YtgjelinnpcekmaaGreatDoor
