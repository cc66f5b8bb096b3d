/-
  The walk of the laws' own trial (works) at this seat's translation: a word with quotes and variables, a document, names.
-/
import Derived.Test.YtnmnhnhlggbijaaDoorExpU
import Derived.Test.YtnmnhnhlggbijaaDoorExpG
namespace Go.Proofs.YtnmnhnhlggbijaaDoor
open Go.RowKit
namespace Exp
open T

theorem rd_chk {α : Type} {e : UInt8} {n : Nat} {k : K} {s : List UInt8} (f : Out → α) {v : α} (h : (rd e n k s).map f = some v) : ∃ O, Rd e k s O ∧ f O = v := by
  obtain ⟨O, h1, h2⟩ := Option.map_eq_some_iff.1 h
  exact ⟨O, rd_is n k s O h1, h2⟩
theorem wk1 : ∃ O, Rd 92 .plain [97, 36, 65, 39, 36, 65, 39, 34, 36, 123, 65, 125, 34, 36, 123, 67, 58, 45, 92, 125, 125] O ∧ told (valOf [([65], [120])]) O = ([97, 120, 36, 65, 120, 125], 0) := rd_chk (n := 30) _ (by kernel_rfl)
theorem wk2 : ∃ O, Rd 92 .doc [39, 36, 65, 92, 36] O ∧ told (valOf [([65], [120])]) O = ([39, 120, 36], 0) := rd_chk (n := 30) _ (by kernel_rfl)
theorem wk3 : ∃ O, Rd 92 .plain [36, 65, 36, 123, 66, 58, 45, 36, 67, 125] O ∧ toldNames O = [[65], [66], [67]] := rd_chk (n := 30) _ (by kernel_rfl)
set_option maxHeartbeats 4000000 in
set_option maxRecDepth 100000 in
theorem works_any (w : World) : Calls Tryd.prog 13 #[] w fun e w' => e = .returned (.bool true) ∧ Below w.heap.size w w' := by
  obtain ⟨O1, h1, r1⟩ := wk1
  obtain ⟨O2, h2, r2⟩ := wk2
  obtain ⟨O3, h3, r3⟩ := wk3
  have hR : Reads (w.alloc (.cells #[.string ⟨#[65]⟩, .string ⟨#[120]⟩] 52)) (w.alloc (.cells #[.string ⟨#[65]⟩, .string ⟨#[120]⟩] 52)).heap.size 2 (some ⟨w.heap.size, 0, none⟩) 1 (px [([65], [120])]) := Reads.of_block (heap_alloc_new w _) rfl
  have hle : PxLe 140737488355328 [([65], [120])] := by intro p hp; simp at hp; subst hp; exact ⟨by decide, by decide⟩
  have HR := Lib.hid hR
  have H1 := Lib.hid (fun w1 (hb : Below (w.alloc (.cells #[.string ⟨#[65]⟩, .string ⟨#[120]⟩] 52)).heap.size (w.alloc (.cells #[.string ⟨#[65]⟩, .string ⟨#[120]⟩] 52)) w1) => word_any _ 92 (some ⟨w.heap.size, 0, none⟩) 1 1 [([65], [120])] O1 w1 (by simp) (by omega) ((hR.below hb).more hb.size) hle h1)
  have H2 := Lib.hid (fun w1 (hb : Below (w.alloc (.cells #[.string ⟨#[65]⟩, .string ⟨#[120]⟩] 52)).heap.size (w.alloc (.cells #[.string ⟨#[65]⟩, .string ⟨#[120]⟩] 52)) w1) => doc_any _ 92 (some ⟨w.heap.size, 0, none⟩) 1 1 [([65], [120])] O2 w1 (by simp) (by omega) ((hR.below hb).more hb.size) hle h2)
  have H3 := Lib.hid (fun w1 => names_any _ 92 O3 w1 (by simp) h3)
  unfold ToldPost at H1 H2
  unfold NmsPost at H3
  rw [r1] at H1
  rw [r2] at H2
  rw [r3] at H3
  clear h1 h2 h3 r1 r2 r3 hR hle
  simp only [errV, if_true] at H1 H2
  go_enter Tryd.func13, Tryd.ntmps13
  go_wp2_with fail
  refine (H1.out _ (Below.refl _ _)).mono ?_
  rintro e w1 ⟨rfl, hb1⟩
  have HB1 := Lib.hid hb1
  clear hb1
  go_wp2_with fail
  refine (H2.out _ HB1.out).mono ?_
  rintro e w2 ⟨rfl, hb2⟩
  have HB2 := Lib.hid (HB1.out.trans (hb2.mono HB1.out.size))
  clear hb2
  go_wp2_with fail
  refine (H3.out _).mono ?_
  rintro e w3 ⟨v, rfl, ho, hb3⟩
  have HB3 := Lib.hid (HB2.out.trans (hb3.mono HB2.out.size))
  obtain ⟨A, c, rfl, hr⟩ := ho.form
  obtain ⟨ad, rfl, _, hc⟩ := hr.2 (by simp)
  have k2 : w3.cell? ⟨ad.block, ad.off + 2, none⟩ = some (.string ⟨#[67]⟩) := by
    have := hc 2 (.string ⟨#[67]⟩) rfl
    rw [← this]; unfold Addr.add; simp
  have HF := Lib.hid (((Below.refl w.heap.size w).alloc (Nat.le_refl _) _).trans (HB3.out.mono (by simp)))
  clear hb3 ho hr hc HB1 HB2 HB3 H1 H2 H3 HR
  simp only [List.length_cons, List.length_nil]
  go_wp2_with fail
  go_ret
  exact ⟨rfl, HF.out⟩
end Exp
end Go.Proofs.YtnmnhnhlggbijaaDoor
