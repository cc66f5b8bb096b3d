/-
  The walk of stratalaw03.DigestLays at this seat's translation.
-/
import Derived.Test.YtgjelinnpcekmaaGreatDoorLayR
import Derived.Test.YtgjelinnpcekmaaGreatDoorLnt
namespace Go.Proofs.YtgjelinnpcekmaaGreatDoor
open Go.RowKit Sha Plain

theorem small_pieces {l : List (List UInt8)} (h : total l + l.length ≤ 16777216) : (pieces l).length ≤ 201326592 := by
  have := pieces_le l (fun p hp => by have := small_texts (show total l ≤ 16777216 by omega) p hp; omega)
  omega
set_option maxHeartbeats 4000000 in
theorem digestLays_any (A : Option Addr) (n c : Nat) (l : List (List UInt8)) (w : World) (hr : Reads w w.heap.size 1 A n (tx l)) (hl : total l + l.length ≤ 1048576) (hk : KTab w) (ht : Tab10 w) :
    Calls Tryz.prog 20 #[.slice A n c] w fun e w' => e = .returned (.bool true) ∧ Below w.heap.size w w' := by
  have hll : l.length = n := by have := hr.1; rw [tx_length] at this; omega
  have sl := small_texts (show total l ≤ 1048576 by omega)
  have hpl := small_pieces (show total l + l.length ≤ 16777216 by omega)
  have F1 := few_any A n c w.heap.size l w hr (by omega) (fun p hp => by have := sl p hp; omega)
  rw [decide_eq_true (show total l ≤ 1048576 by omega)] at F1
  have HF1 := Lib.hid F1
  have HR := Lib.hid hr
  have HK := Lib.hid hk
  have HT := Lib.hid ht
  have HPL := Lib.hid hpl
  have hn : n ≤ 1048576 := by omega
  clear hr hk ht hll sl F1 hpl hl
  go_enter Tryz.func20, Tryz.ntmps20
  go_wp2_with fail
  refine HF1.out.mono ?_
  rintro e w' ⟨rfl, rfl⟩
  clear HF1
  go_wp2_with fail
  refine (lentTexts_any A n c l w HR.out (by omega)).mono ?_
  rintro e w1 ⟨g, c', rfl, hc', hr1, hb1⟩
  have HC := Lib.hid hc'
  have HR1 := Lib.hid hr1
  have HB1 := Lib.hid hb1
  clear hc' hr1 hb1
  have HRP := Lib.hid (show ∀ w', Below w1.heap.size w1 w' → Reads w' w'.heap.size 1 (some ⟨g, 0, none⟩) n (tx l) from fun w' hb => (by
    have h := HR1.out.step (Nat.le_refl _) hb
    refine ⟨by rw [tx_length]; have := HR.out.1; rw [tx_length] at this; exact this, fun _ => ?_⟩
    obtain ⟨ad, ha, h1, h2⟩ := h.2 (by omega)
    refine ⟨ad, ha, h1, fun j u hu => h2 j u ?_⟩
    rw [tx_append, List.getElem?_append_left (List.getElem?_eq_some_iff.1 hu).1]
    exact hu))
  go_wp2_with fail
  refine (Pieces_any (some ⟨g, 0, none⟩) n c' l w1 (HRP.out w1 (Below.refl _ _)) (by have := HPL.out; omega) (HT.out.below HB1.out HT.out.lt)).mono ?_
  rintro e w2 ⟨rfl, hb2⟩
  have HB2 := Lib.hid (HB1.out.trans (hb2.mono HB1.out.size))
  have HR2 := Lib.hid (HR1.out.step (Nat.le_refl _) hb2)
  clear hb2 HB1 HR1 HRP
  go_wp2_with fail
  refine (refPieces_any A n c l w2 (HR.out.step (Nat.le_refl _) HB2.out) (by have := HPL.out; omega)).mono ?_
  rintro e w3 ⟨rfl, hb3⟩
  have HB3 := Lib.hid (HB2.out.trans (hb3.mono HB2.out.size))
  have HR3 := Lib.hid (HR2.out.step (Nat.le_refl _) hb3)
  clear hb3 HB2 HR2
  generalize pieces l = P
  go_wp2_with fail
  refine (keptTexts_any A g n c c' l w3 (HR.out.step (Nat.le_refl _) HB3.out) HC.out HR3.out (by omega)).mono ?_
  rintro e w4 ⟨rfl, hb4⟩
  have HB4 := Lib.hid (HB3.out.trans (hb4.mono HB3.out.size))
  clear hb4 HB3 HR3
  go_wp2_with fail
  refine (works_any w4 (HK.out.below HB4.out) (HT.out.below HB4.out HT.out.lt)).mono ?_
  rintro e w9 ⟨rfl, hb9⟩
  have HB9 := Lib.hid (HB4.out.trans (hb9.mono HB4.out.size))
  clear hb9 HB4
  go_wp2
  go_ret
  exact ⟨rfl, HB9.out⟩
end Go.Proofs.YtgjelinnpcekmaaGreatDoor
