/-
  PROVED: stratalaw21.ConfigBackManifests returns true and leaves its arguments as they were: what is told of a manifest is read again as it was, and unlike manifests have unlike forms. Conditions: the row's own (the listed package variables hold what the program's text lays; the card ties that); none beyond.
-/
import Derived.Test.YtjohdaobhonioaaGreatDoorPkBm7
import Derived.Test.YtjohdaobhonioaaGreatDoorPkBm40
import Derived.Test.YtjohdaobhonioaaGreatDoorPkBm6
namespace Go.Proofs.YtjohdaobhonioaaGreatDoor
open Go.ChangeShapes Go.WideShapes Go.ChangeAt Go.RowKit Js Js.Cf
theorem configBackManifests_readable : ∀ t ∈ Tryz.f4.params.toList, Tryz.prog.readableRec t = true ∧ t < Tryz.prog.types.size := by
 intro t ht
 rw [Tryz.params4] at ht
 simp only [List.mem_cons, List.not_mem_nil, or_false] at ht
 rcases ht with rfl | rfl
 all_goals exact ⟨by kernel_rfl, of_decide_eq_true (by kernel_rfl)⟩
noncomputable def configBackManifests_world (os : Os) : World := laidWorldC Rows.configBackManifestsRow.laid os
theorem configBackManifests_met (os : Os) : laidMetH Tryz.prog Rows.configBackManifestsRow.laid ((configBackManifests_world os).forCall (fun _ _ => 0) ⟨#[], #[Value.agg zMf, .agg zMf], []⟩).memory := metC os _
theorem configBackManifests_reads (os : Os) {H : Type} (enc : TypeId × Value → H) : ∃ places, DataW.whole enc Tryz.prog ((configBackManifests_world os).forCall (fun _ _ => 0) ⟨#[], #[Value.agg zMf, .agg zMf], []⟩).memory Tryz.f4.params.toList Rows.configBackManifestsSpec.vars false #[Value.agg zMf, .agg zMf].toList 8 = some ([dMf, dMf], [], places) :=
 ⟨[], by kernel_rfl⟩
set_option maxRecDepth 100000 in
theorem configBackManifests_lifted (os : Os) (started : os.Started) (H : Type) (enc : TypeId × Value → H) (F : Stop.Interp) :
  ReturnsInHanded {} Tryz.checked os 4 .any ((OpenSpec.ofChange Rows.configBackManifestsSpec).preRow enc Tryz.prog Tryz.f4 Rows.configBackManifestsRow.domain false Rows.configBackManifestsRow.laid) (((OpenSpec.ofChange Rows.configBackManifestsSpec).at F).post enc Tryz.prog Tryz.f4 false true false false) := by
 obtain ⟨places, hx⟩ := configBackManifests_reads os enc
 refine returnsInHanded_of_row (C := Tryz.checked) (s := OpenSpec.ofChange Rows.configBackManifestsSpec) own started (by kernel_rfl) Tryz.func4
  (witness_row_atRef (enc := enc) (C := Tryz.checked) false (configBackManifests_world os) #[Value.agg zMf, .agg zMf] rfl (by kernel_rfl) (by kernel_rfl) (by kernel_rfl)
   (OpenSpec.preRow_of_cond 8 hx (by kernel_rfl) (fun k hk => by cases hk) (by kernel_rfl) (configBackManifests_met os))) ?_
 intro W base args ds gs before hval0 hW _ _ _ hL _ _
 have hval : ∀ (j : Nat) t v, Tryz.f4.params[j]? = some t → args[j]? = some v → Value.okWide Tryz.prog W .any base t v := hval0
 have hW' := hW
 obtain ⟨p, q, hA0, hV, rfl, hfz, hnd⟩ := hW
 have hA : DataW.TrodAll enc Tryz.prog W 0 (fun _ => true) true Tryz.f4.params.toList args.toList ds p := hA0
 rw [Tryz.params4] at hA hval
 obtain ⟨v0, vs0, d0, ds0, p0, q0, hargs, rfl, rfl, h0, r0⟩ := trodAll_cons hA
 obtain ⟨v1, vs1, d1, ds1, p1, q1, rfl, rfl, rfl, h1, r1⟩ := trodAll_cons r0
 obtain ⟨rfl, rfl, rfl⟩ := trodAll_nil r1
 obtain rfl : args = #[v0, v1] := by cases args; simp_all
 obtain ⟨m0, A0, k0, ok0, rfl, hr0⟩ := open_mf (hval 0 45 v0 rfl rfl) h0
 obtain ⟨m1, A1, k1, ok1, rfl, hr1⟩ := open_mf (hval 1 45 v1 rfl rfl) h1
 refine (cbm_all m0 m1 A0 A1 k0 k1 W ok0 ok1 hr0 hr1 (st_row hL)).mono fun e W' ⟨he, hw⟩ => ?_
 subst he
 exact ⟨_, rfl, law_post (tb := 4) hW' rfl (by kernel_rfl) Tryz.underlying4 laidOut configBackManifests_readable (fun hg => by subst hg; rfl) hw⟩
set_option maxRecDepth 100000 in
theorem configBackManifests_said : Rows.ConfigBackManifestsSaid :=
 OpenClaim.holds_of_cond 4 Tryz.f4 rfl rfl rfl rfl rfl rfl rfl ⟨rfl, rfl, rfl, rfl, rfl⟩ rfl rfl rfl rfl rfl (by as_aux_lemma => kernel_rfl) Tryz.func4 configBackManifests_closed
  (of_decide_eq_true (by kernel_rfl)) (by unfold Func.isWrapper; first | (rw [if_pos (by decide +kernel)]; kernel_rfl) | (rw [if_neg (by decide +kernel)]; exact ⟨rfl, rfl⟩))
  (fun os started H enc _ F => by rw [OpenClaim.pre_eq_preRow]; exact configBackManifests_lifted os started H enc F)
set_option maxRecDepth 100000 in
theorem configBackManifests_card : Rows.ConfigBackManifestsCardSaid :=
 Claim7.holds_tied_plain_at .later [] _ _ _ _ configBackManifests_said (fun _ h => by cases h) (by as_aux_lemma => kernel_rfl) (fun _ h => by cases h) configBackManifests_row_tie rfl ⟨rfl, rfl⟩ (by as_aux_lemma => kernel_rfl) rfl
  (no_standIn (f := 4) (fn := Tryz.f4) (by as_aux_lemma => kernel_rfl) Tryz.func4 (by as_aux_lemma => kernel_rfl) (by as_aux_lemma => kernel_rfl)) (by as_aux_lemma => kernel_rfl)
#print axioms configBackManifests_card
end Go.Proofs.YtjohdaobhonioaaGreatDoor
