/-
  PROVED: stratalaw04.JsonBack returns true and leaves its arguments as they were: what is written of a value is read as that value, its keys rising, and is written again as it was. Conditions: the arguments' bulk is at most 1048576 (the statement's second form); the row's own (the listed package variables hold what the program's text lays; the card ties that); none beyond.
-/
import Derived.Test.YtlfeddgpfaigkaaGreatDoorJsBk
import Derived.Test.YtlfeddgpfaigkaaGreatDoorRowL
namespace Go.Proofs.YtlfeddgpfaigkaaGreatDoor
open Go.ChangeShapes Go.WideShapes Go.ChangeAt Go.RowKit Err Js

theorem jsonBack_readable : ∀ t ∈ Tryz.f5.params.toList, Tryz.prog.readableRec t = true ∧ t < Tryz.prog.types.size := by
  intro t ht
  rw [Tryz.params5] at ht
  simp only [List.mem_cons, List.not_mem_nil, or_false] at ht
  rcases ht with rfl
  all_goals exact ⟨by kernel_rfl, of_decide_eq_true (by kernel_rfl)⟩
noncomputable def jsonBack_world (os : Os) : World := laidWorldJ Rows.jsonBackUptoRow.laid os
theorem jsonBack_met (os : Os) : laidMetH Tryz.prog Rows.jsonBackUptoRow.laid ((jsonBack_world os).forCall (fun _ _ => 0) ⟨#[], #[Value.agg #[.int .i64 0, .int .i64 0, .string .empty, .slice none 0 0, .slice none 0 0]], []⟩).memory := metJ os _
theorem jsonBack_reads (os : Os) {H : Type} (enc : TypeId × Value → H) : ∃ places, DataW.whole enc Tryz.prog ((jsonBack_world os).forCall (fun _ _ => 0) ⟨#[], #[Value.agg #[.int .i64 0, .int .i64 0, .string .empty, .slice none 0 0, .slice none 0 0]], []⟩).memory Tryz.f5.params.toList Rows.jsonBackSpec.vars false #[Value.agg #[.int .i64 0, .int .i64 0, .string .empty, .slice none 0 0, .slice none 0 0]].toList 8 = some ([.agg [.lit (.int .i64 0), .lit (.int .i64 0), .lit (.string []), .nil, .nil]], [], places) :=
  ⟨[], by kernel_rfl⟩

set_option maxRecDepth 100000 in
theorem jsonBack_lifted (os : Os) (started : os.Started) (H : Type) (enc : TypeId × Value → H) (F : Stop.Interp) :
    ReturnsInHanded {} Tryz.checked os 5 .any ((Rows.OpenSpec.upto Rows.jsonBackSpec).preRow enc Tryz.prog Tryz.f5 Rows.jsonBackUptoRow.domain false Rows.jsonBackUptoRow.laid) (((Rows.OpenSpec.upto Rows.jsonBackSpec).at F).post enc Tryz.prog Tryz.f5 false true false false) := by
  obtain ⟨places, hx⟩ := jsonBack_reads os enc
  refine returnsInHanded_of_row (C := Tryz.checked) (s := Rows.OpenSpec.upto Rows.jsonBackSpec) own started (by kernel_rfl) Tryz.func5
    (witness_row_atRef (enc := enc) (C := Tryz.checked) false (jsonBack_world os) #[Value.agg #[.int .i64 0, .int .i64 0, .string .empty, .slice none 0 0, .slice none 0 0]] rfl (by kernel_rfl) (by kernel_rfl) (by kernel_rfl)
      (OpenSpec.preRow_of_cond 8 hx (by kernel_rfl) (fun k hk => by cases hk; kernel_rfl) (by kernel_rfl) (jsonBack_met os))) ?_
  intro W base args ds gs before hval0 hW _ hcond _ hL _ _
  have hval : ∀ (j : Nat) t v, Tryz.f5.params[j]? = some t → args[j]? = some v → Value.okWide Tryz.prog W .any base t v := hval0
  have hW' := hW
  obtain ⟨p, q, hA0, hV, rfl, hfz, hnd⟩ := hW
  have hA : DataW.TrodAll enc Tryz.prog W 0 (fun _ => true) true Tryz.f5.params.toList args.toList ds p := hA0
  have hb := hcond _ rfl
  rw [Tryz.params5] at hA hval
  obtain ⟨v0, vs0, d0, ds0, p0, q0, hargs, rfl, rfl, h0, r0⟩ := trodAll_cons hA
  obtain ⟨rfl, rfl, rfl⟩ := trodAll_nil r0
  obtain rfl : args = #[v0] := by cases args; simp_all
  obtain ⟨f0, hf0⟩ := h0
  have hbulk : Rows.uptoBulkAll (([d0] : List (DataW H)) ++ gs) ≤ 1048576 := of_decide_eq_true hb
  simp only [List.cons_append, List.nil_append, Rows.uptoBulkAll] at hbulk
  obtain ⟨j0, k0, iv0, kv0, hc0, htv0, hn0, hk0, hm0⟩ := open_json f0 _ _ _ hf0 (by omega)
  obtain rfl := agg5 hc0
  refine (jsonBack_any j0 k0 iv0 kv0 W (by omega) hn0 hk0 htv0 (st_row hL)).mono fun e W' ⟨he, hw⟩ => ?_
  subst he
  exact ⟨_, rfl, law_post (tb := 4) hW' rfl (by kernel_rfl) Tryz.underlying4 laidOut jsonBack_readable (fun hg => by subst hg; rfl) hw⟩

theorem jsonBack_said : Rows.JsonBackUptoSaid :=
  OpenClaim.holds_of_cond 5 Tryz.f5 rfl rfl rfl rfl rfl rfl rfl ⟨rfl, rfl, rfl, rfl, rfl⟩ rfl rfl rfl rfl rfl (by kernel_rfl) Tryz.func5 (by kernel_rfl)
    (of_decide_eq_true (by kernel_rfl)) (by unfold Func.isWrapper; first | (rw [if_pos (by decide +kernel)]; kernel_rfl) | (rw [if_neg (by decide +kernel)]; exact ⟨rfl, rfl⟩))
    (fun os started H enc _ F => by rw [OpenClaim.pre_eq_preRow]; exact jsonBack_lifted os started H enc F)
theorem jsonBack_card : Rows.JsonBackUptoCardSaid :=
  Claim7.holds_tied_plain_at .later [] _ _ _ _ jsonBack_said (fun _ h => by cases h) (by kernel_rfl) (fun _ h => by cases h) jsonBackUpto_row_tie rfl ⟨rfl, rfl⟩ (by kernel_rfl) rfl
    (no_standIn (f := 5) (fn := Tryz.f5) (by kernel_rfl) Tryz.func5 (by kernel_rfl) (by kernel_rfl)) (by kernel_rfl)
#print axioms jsonBack_card
end Go.Proofs.YtlfeddgpfaigkaaGreatDoor
