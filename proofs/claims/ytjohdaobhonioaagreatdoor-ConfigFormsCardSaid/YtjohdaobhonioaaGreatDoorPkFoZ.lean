/-
  PROVED: stratalaw21.ConfigForms returns true and leaves its arguments as they were: what is taken is the one form; no beginning of it and nothing behind it is taken; changed by a byte it is told as it is then, if it is taken. Conditions: the row's own (the listed package variables hold what the program's text lays; the card ties that); none beyond.
-/
import Derived.Test.YtjohdaobhonioaaGreatDoorPkFo7
import Derived.Test.YtjohdaobhonioaaGreatDoorPkFo41
import Derived.Test.YtjohdaobhonioaaGreatDoorPkFo6
namespace Go.Proofs.YtjohdaobhonioaaGreatDoor
open Go.ChangeShapes Go.WideShapes Go.ChangeAt Go.RowKit Js Js.Cf
theorem configForms_readable : ∀ t ∈ Tryz.f5.params.toList, Tryz.prog.readableRec t = true /\ t < Tryz.prog.types.size := by
 intro t ht
 rw [Tryz.params5] at ht
 simp only [List.mem_cons, List.not_mem_nil, or_false] at ht
 rcases ht with rfl | rfl | rfl
 all_goals exact ⟨by kernel_rfl, of_decide_eq_true (by kernel_rfl)⟩
noncomputable def configForms_world (os : Os) : World := laidWorldC Rows.configFormsRow.laid os
theorem configForms_met (os : Os) : laidMetH Tryz.prog Rows.configFormsRow.laid ((configForms_world os).forCall (fun _ _ => 0) ⟨#[], #[Value.string .empty, .int .i64 0, .int .u8 0], []⟩).memory := metC os _
theorem configForms_reads (os : Os) {H : Type} (enc : TypeId × Value -> H) : ∃ places, DataW.whole enc Tryz.prog ((configForms_world os).forCall (fun _ _ => 0) ⟨#[], #[Value.string .empty, .int .i64 0, .int .u8 0], []⟩).memory Tryz.f5.params.toList Rows.configFormsSpec.vars false #[Value.string .empty, .int .i64 0, .int .u8 0].toList 8 = some ([.lit (.string []), .lit (.int .i64 0), .lit (.int .u8 0)], [], places) :=
 ⟨[], by kernel_rfl⟩
set_option maxRecDepth 100000 in
theorem configForms_lifted (os : Os) (started : os.Started) (H : Type) (enc : TypeId × Value -> H) (F : Stop.Interp) :
  ReturnsInHanded {} Tryz.checked os 5 .any ((OpenSpec.ofChange Rows.configFormsSpec).preRow enc Tryz.prog Tryz.f5 Rows.configFormsRow.domain false Rows.configFormsRow.laid) (((OpenSpec.ofChange Rows.configFormsSpec).at F).post enc Tryz.prog Tryz.f5 false true false false) := by
 obtain ⟨places, hx⟩ := configForms_reads os enc
 refine returnsInHanded_of_row (C := Tryz.checked) (s := OpenSpec.ofChange Rows.configFormsSpec) own started (by kernel_rfl) Tryz.func5
  (witness_row_atRef (enc := enc) (C := Tryz.checked) false (configForms_world os) #[Value.string .empty, .int .i64 0, .int .u8 0] rfl (by kernel_rfl) (by kernel_rfl) (by kernel_rfl)
   (OpenSpec.preRow_of_cond 8 hx (by kernel_rfl) (fun k hk => by cases hk) (by kernel_rfl) (configForms_met os))) ?_
 intro W base args ds gs before hval0 hW _ _ _ hL _ _
 have hval : ∀ (j : Nat) t v, Tryz.f5.params[j]? = some t -> args[j]? = some v -> Value.okWide Tryz.prog W .any base t v := hval0
 have hW' := hW
 obtain ⟨p, q, hA0, hV, rfl, hfz, hnd⟩ := hW
 have hA : DataW.TrodAll enc Tryz.prog W 0 (fun _ => true) true Tryz.f5.params.toList args.toList ds p := hA0
 rw [Tryz.params5] at hA hval
 obtain ⟨v0, vs0, d0, ds0, p0, q0, hargs, rfl, rfl, h0, r0⟩ := trodAll_cons hA
 obtain ⟨v1, vs1, d1, ds1, p1, q1, rfl, rfl, rfl, h1, r1⟩ := trodAll_cons r0
 obtain ⟨v2, vs2, d2, ds2, p2, q2, rfl, rfl, rfl, h2, r2⟩ := trodAll_cons r1
 obtain ⟨rfl, rfl, rfl⟩ := trodAll_nil r2
 obtain rfl : args = #[v0, v1, v2] := by cases args; simp_all
 obtain ⟨s0, rfl, b0, m0⟩ := open_textJ Tryz.underlying9 (hval 0 9 v0 rfl rfl) h0
 obtain ⟨n1, rfl, _, _, w1⟩ := open_int Tryz.underlying3 (hval 1 3 v1 rfl rfl) h1
 obtain ⟨c2, rfl⟩ := open_u8 Tryz.underlying5 (hval 2 5 v2 rfl rfl) h2
 refine (configForms_any s0 n1 c2 W m0 (st_row hL)).mono fun e W' ⟨he, hw⟩ => ?_
 subst he
 exact ⟨_, rfl, law_post (tb := 4) hW' rfl (by kernel_rfl) Tryz.underlying4 laidOut configForms_readable (fun hg => by subst hg; rfl) hw⟩
set_option maxRecDepth 100000 in
theorem configForms_said : Rows.ConfigFormsSaid :=
 OpenClaim.holds_of_cond 5 Tryz.f5 rfl rfl rfl rfl rfl rfl rfl ⟨rfl, rfl, rfl, rfl, rfl⟩ rfl rfl rfl rfl rfl (by as_aux_lemma => kernel_rfl) Tryz.func5 configForms_closed
  (of_decide_eq_true (by kernel_rfl)) (by unfold Func.isWrapper; first | (rw [if_pos (by decide +kernel)]; kernel_rfl) | (rw [if_neg (by decide +kernel)]; exact ⟨rfl, rfl⟩))
  (fun os started H enc _ F => by rw [OpenClaim.pre_eq_preRow]; exact configForms_lifted os started H enc F)
set_option maxRecDepth 100000 in
theorem configForms_card : Rows.ConfigFormsCardSaid :=
 Claim7.holds_tied_plain_at .later [] _ _ _ _ configForms_said (fun _ h => by cases h) (by as_aux_lemma => kernel_rfl) (fun _ h => by cases h) configForms_row_tie rfl ⟨rfl, rfl⟩ (by as_aux_lemma => kernel_rfl) rfl
  (no_standIn (f := 5) (fn := Tryz.f5) (by as_aux_lemma => kernel_rfl) Tryz.func5 (by as_aux_lemma => kernel_rfl) (by as_aux_lemma => kernel_rfl)) (by as_aux_lemma => kernel_rfl)
#print axioms configForms_card
end Go.Proofs.YtjohdaobhonioaaGreatDoor
