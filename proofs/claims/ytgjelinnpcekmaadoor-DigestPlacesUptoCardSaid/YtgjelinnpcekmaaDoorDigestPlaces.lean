/-
  PROVED: stratalaw03.DigestPlaces returns true and leaves its arguments as they were: ahead of a fault laid pieces stand, and what begins there is told wrong at its own first byte behind any pieces too. Conditions: the arguments' bulk is at most 1048576 (the statement's second form); the row's own (the listed package variables hold what the program's text lays; the card ties that); none beyond.
-/
import Derived.Test.YtgjelinnpcekmaaDoorDigL
import Derived.Test.YtgjelinnpcekmaaDoorRowD
namespace Go.Proofs.YtgjelinnpcekmaaDoor
open Go.ChangeShapes Go.WideShapes Go.ChangeAt Go.RowKit Err Plain Sha

theorem digestPlaces_readable : ∀ t ∈ Tryd.f11.params.toList, Tryd.prog.readableRec t = true ∧ t < Tryd.prog.types.size := by
  intro t ht
  rw [Tryd.params11] at ht
  simp only [List.mem_cons, List.not_mem_nil, or_false] at ht
  rcases ht with rfl | rfl
  all_goals exact ⟨by kernel_rfl, of_decide_eq_true (by kernel_rfl)⟩
noncomputable def digestPlaces_world (os : Os) : World := laidWorld Rows.digestPlacesUptoRow.laid os
theorem digestPlaces_met (os : Os) : laidMetH Tryd.prog Rows.digestPlacesUptoRow.laid ((digestPlaces_world os).forCall (fun _ _ => 0) ⟨#[], #[Value.string .empty, .slice none 0 0], []⟩).memory :=
  laidMetH_of_parts (laidMet_of_run' 8 (by kernel_rfl) (by kernel_rfl)) (by kernel_rfl)
theorem digestPlaces_reads (os : Os) {H : Type} (enc : TypeId × Value → H) : ∃ places, DataW.whole enc Tryd.prog ((digestPlaces_world os).forCall (fun _ _ => 0) ⟨#[], #[Value.string .empty, .slice none 0 0], []⟩).memory Tryd.f11.params.toList Rows.digestPlacesSpec.vars false #[Value.string .empty, .slice none 0 0].toList 8 = some ([.lit (.string []), .nil], [], places) :=
  ⟨[], by kernel_rfl⟩

set_option maxRecDepth 100000 in
theorem digestPlaces_lifted (os : Os) (started : os.Started) (H : Type) (enc : TypeId × Value → H) (F : Stop.Interp) :
    ReturnsInHanded {} Tryd.checked os 11 .any ((Rows.OpenSpec.upto Rows.digestPlacesSpec).preRow enc Tryd.prog Tryd.f11 Rows.digestPlacesUptoRow.domain false Rows.digestPlacesUptoRow.laid) (((Rows.OpenSpec.upto Rows.digestPlacesSpec).at F).post enc Tryd.prog Tryd.f11 false true false false) := by
  obtain ⟨places, hx⟩ := digestPlaces_reads os enc
  refine returnsInHanded_of_row (C := Tryd.checked) (s := Rows.OpenSpec.upto Rows.digestPlacesSpec) own started (by kernel_rfl) Tryd.func11
    (witness_row_at (enc := enc) (C := Tryd.checked) false (digestPlaces_world os) #[Value.string .empty, .slice none 0 0] rfl (by kernel_rfl) (by kernel_rfl) (by kernel_rfl)
      (OpenSpec.preRow_of_cond 8 hx (by kernel_rfl) (fun k hk => by cases hk; kernel_rfl) (by kernel_rfl) (digestPlaces_met os))) ?_
  intro W base args ds gs before hval0 hW _ hcond _ hL _ _
  have hval : ∀ (j : Nat) t v, Tryd.f11.params[j]? = some t → args[j]? = some v → Value.okWide Tryd.prog W .any base t v := hval0
  have hW' := hW
  obtain ⟨p, q, hA0, hV, rfl, hfz, hnd⟩ := hW
  have hA : DataW.TrodAll enc Tryd.prog W 0 (fun _ => true) true Tryd.f11.params.toList args.toList ds p := hA0
  have hb := hcond _ rfl
  rw [Tryd.params11] at hA hval
  obtain ⟨v0, vs0, d0, ds0, p0, q0, hargs, rfl, rfl, h0, r0⟩ := trodAll_cons hA
  obtain ⟨v1, vs1, d1, ds1, p1, q1, rfl, rfl, rfl, h1, r1⟩ := trodAll_cons r0
  obtain ⟨rfl, rfl, rfl⟩ := trodAll_nil r1
  obtain rfl : args = #[v0, v1] := by cases args; simp_all
  obtain ⟨s0, rfl, b0⟩ := open_text Tryd.underlying9 (hval 0 9 v0 rfl rfl) h0
  obtain ⟨A1, n1, k1, l1, rfl, hr1, b1⟩ := open_texts Tryd.underlying22 Tryd.underlying9 (by kernel_rfl) (hval 1 22 v1 rfl rfl) h1
  have hbulk : Rows.uptoBulkAll (([d0, d1] : List (DataW H)) ++ gs) ≤ 1048576 := of_decide_eq_true hb
  simp only [List.cons_append, List.nil_append, Rows.uptoBulkAll] at hbulk
  refine (digestPlaces_any s0 A1 n1 k1 l1 W hr1 (by omega) (by omega) (ktab_row hL (List.mem_of_getElem? (i := 4) (by rfl))) (tab10_row hL (List.mem_of_getElem? (i := 2) (by rfl))) (errTab_row hL (List.mem_of_getElem? (i := 3) (by rfl)))).mono fun e W' ⟨he, hw⟩ => ?_
  subst he
  exact ⟨_, rfl, law_post (tb := 4) hW' rfl (by kernel_rfl) Tryd.underlying4 laidOut digestPlaces_readable (fun hg => by subst hg; rfl) hw⟩

theorem digestPlaces_said : Rows.DigestPlacesUptoSaid :=
  OpenClaim.holds_of_cond 11 Tryd.f11 rfl rfl rfl rfl rfl rfl rfl ⟨rfl, rfl, rfl, rfl, rfl⟩ rfl rfl rfl rfl rfl (by kernel_rfl) Tryd.func11 (by kernel_rfl)
    (of_decide_eq_true (by kernel_rfl)) (by unfold Func.isWrapper; first | (rw [if_pos (by decide +kernel)]; kernel_rfl) | (rw [if_neg (by decide +kernel)]; exact ⟨rfl, rfl⟩))
    (fun os started H enc _ F => by rw [OpenClaim.pre_eq_preRow]; exact digestPlaces_lifted os started H enc F)
theorem digestPlaces_card : Rows.DigestPlacesUptoCardSaid :=
  Claim7.holds_tied_plain_at .later [] _ _ _ _ digestPlaces_said (fun _ h => by cases h) (by kernel_rfl) (fun _ h => by cases h) digestPlacesUpto_row_tie rfl ⟨rfl, rfl⟩ (by kernel_rfl) rfl
    (no_standIn (f := 11) (fn := Tryd.f11) (by kernel_rfl) Tryd.func11 (by kernel_rfl) (by kernel_rfl)) (by kernel_rfl)
#print axioms digestPlaces_card
end Go.Proofs.YtgjelinnpcekmaaDoor
