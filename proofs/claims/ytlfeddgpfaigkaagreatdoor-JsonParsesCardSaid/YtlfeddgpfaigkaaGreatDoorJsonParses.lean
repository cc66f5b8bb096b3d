/-
  PROVED: stratalaw04.JsonParses returns true and leaves its arguments as they were: Parse answers as the document says, and hands back memory of its own. Conditions: the row's own (the listed package variables hold what the program's text lays; the card ties that); none beyond.
-/
import Derived.Test.YtlfeddgpfaigkaaGreatDoorJsPv
import Derived.Test.YtlfeddgpfaigkaaGreatDoorRowL
namespace Go.Proofs.YtlfeddgpfaigkaaGreatDoor
open Go.ChangeShapes Go.WideShapes Go.ChangeAt Go.RowKit Err Js

theorem jsonParses_readable : ∀ t ∈ Tryz.f4.params.toList, Tryz.prog.readableRec t = true ∧ t < Tryz.prog.types.size := by
  intro t ht
  rw [Tryz.params4] at ht
  simp only [List.mem_cons, List.not_mem_nil, or_false] at ht
  rcases ht with rfl | rfl
  all_goals exact ⟨by kernel_rfl, of_decide_eq_true (by kernel_rfl)⟩
noncomputable def jsonParses_world (os : Os) : World := laidWorldJ Rows.jsonParsesRow.laid os
theorem jsonParses_met (os : Os) : laidMetH Tryz.prog Rows.jsonParsesRow.laid ((jsonParses_world os).forCall (fun _ _ => 0) ⟨#[], #[Value.string .empty, .string .empty], []⟩).memory := metJ os _
theorem jsonParses_reads (os : Os) {H : Type} (enc : TypeId × Value → H) : ∃ places, DataW.whole enc Tryz.prog ((jsonParses_world os).forCall (fun _ _ => 0) ⟨#[], #[Value.string .empty, .string .empty], []⟩).memory Tryz.f4.params.toList Rows.jsonParsesSpec.vars false #[Value.string .empty, .string .empty].toList 8 = some ([.lit (.string []), .lit (.string [])], [], places) :=
  ⟨[], by kernel_rfl⟩

set_option maxRecDepth 100000 in
theorem jsonParses_lifted (os : Os) (started : os.Started) (H : Type) (enc : TypeId × Value → H) (F : Stop.Interp) :
    ReturnsInHanded {} Tryz.checked os 4 .any ((OpenSpec.ofChange Rows.jsonParsesSpec).preRow enc Tryz.prog Tryz.f4 Rows.jsonParsesRow.domain false Rows.jsonParsesRow.laid) (((OpenSpec.ofChange Rows.jsonParsesSpec).at F).post enc Tryz.prog Tryz.f4 false true false false) := by
  obtain ⟨places, hx⟩ := jsonParses_reads os enc
  refine returnsInHanded_of_row (C := Tryz.checked) (s := OpenSpec.ofChange Rows.jsonParsesSpec) own started (by kernel_rfl) Tryz.func4
    (witness_row_atRef (enc := enc) (C := Tryz.checked) false (jsonParses_world os) #[Value.string .empty, .string .empty] rfl (by kernel_rfl) (by kernel_rfl) (by kernel_rfl)
      (OpenSpec.preRow_of_cond 8 hx (by kernel_rfl) (fun k hk => by cases hk) (by kernel_rfl) (jsonParses_met os))) ?_
  intro W base args ds gs before hval0 hW _ _ _ hL _ _
  have hval : ∀ (j : Nat) t v, Tryz.f4.params[j]? = some t → args[j]? = some v → Value.okWide Tryz.prog W .any base t v := hval0
  have hW' := hW
  obtain ⟨p, q, hA0, hV, rfl, hfz, hnd⟩ := hW
  have hA : DataW.TrodAll enc Tryz.prog W 0 (fun _ => true) true Tryz.f4.params.toList args.toList ds p := hA0
  rw [Tryz.params4] at hA hval
  obtain ⟨v0, vs0, d0, ds0, p0, q0, hargs, rfl, rfl, h0, r0⟩ := trodAll_cons hA
  obtain ⟨v1, vs1, d1, ds1, p1, q1, rfl, rfl, rfl, h1, r1⟩ := trodAll_cons r0
  obtain ⟨rfl, rfl, rfl⟩ := trodAll_nil r1
  obtain rfl : args = #[v0, v1] := by cases args; simp_all
  obtain ⟨s0, rfl, b0, m0⟩ := open_textJ Tryz.underlying9 (hval 0 9 v0 rfl rfl) h0
  obtain ⟨s1, rfl, b1, m1⟩ := open_textJ Tryz.underlying9 (hval 1 9 v1 rfl rfl) h1
  refine (jsonParses_any s0 s1 m0 W (st_row hL)).mono fun e W' ⟨he, hw⟩ => ?_
  subst he
  exact ⟨_, rfl, law_post (tb := 4) hW' rfl (by kernel_rfl) Tryz.underlying4 laidOut jsonParses_readable (fun hg => by subst hg; rfl) hw⟩

theorem jsonParses_said : Rows.JsonParsesSaid :=
  OpenClaim.holds_of_cond 4 Tryz.f4 rfl rfl rfl rfl rfl rfl rfl ⟨rfl, rfl, rfl, rfl, rfl⟩ rfl rfl rfl rfl rfl (by kernel_rfl) Tryz.func4 (by kernel_rfl)
    (of_decide_eq_true (by kernel_rfl)) (by unfold Func.isWrapper; first | (rw [if_pos (by decide +kernel)]; kernel_rfl) | (rw [if_neg (by decide +kernel)]; exact ⟨rfl, rfl⟩))
    (fun os started H enc _ F => by rw [OpenClaim.pre_eq_preRow]; exact jsonParses_lifted os started H enc F)
theorem jsonParses_card : Rows.JsonParsesCardSaid :=
  Claim7.holds_tied_plain_at .later [] _ _ _ _ jsonParses_said (fun _ h => by cases h) (by kernel_rfl) (fun _ h => by cases h) jsonParses_row_tie rfl ⟨rfl, rfl⟩ (by kernel_rfl) rfl
    (no_standIn (f := 4) (fn := Tryz.f4) (by kernel_rfl) Tryz.func4 (by kernel_rfl) (by kernel_rfl)) (by kernel_rfl)
#print axioms jsonParses_card
end Go.Proofs.YtlfeddgpfaigkaaGreatDoor
