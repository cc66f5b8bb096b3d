/-
  PROVED: stratalaw04.JsonKnown returns true and leaves its arguments as they were: the chapter's examples; each limit from both sides; each error ahead of the next. Conditions: the row's own (the listed package variables hold what the program's text lays; the card ties that); none beyond.
-/
import Derived.Test.YtlfeddgpfaigkaaGreatDoorJsKv
import Derived.Test.YtlfeddgpfaigkaaGreatDoorRowL
namespace Go.Proofs.YtlfeddgpfaigkaaGreatDoor
open Go.ChangeShapes Go.WideShapes Go.ChangeAt Go.RowKit Err Js

theorem jsonKnown_readable : ∀ t ∈ Tryz.f8.params.toList, Tryz.prog.readableRec t = true ∧ t < Tryz.prog.types.size := by
  intro t ht
  rw [Tryz.params8] at ht
  cases ht
noncomputable def jsonKnown_world (os : Os) : World := laidWorldJ Rows.jsonKnownRow.laid os
theorem jsonKnown_met (os : Os) : laidMetH Tryz.prog Rows.jsonKnownRow.laid ((jsonKnown_world os).forCall (fun _ _ => 0) ⟨#[], #[], []⟩).memory := metJ os _
theorem jsonKnown_reads (os : Os) {H : Type} (enc : TypeId × Value → H) : ∃ places, DataW.whole enc Tryz.prog ((jsonKnown_world os).forCall (fun _ _ => 0) ⟨#[], #[], []⟩).memory Tryz.f8.params.toList Rows.jsonKnownSpec.vars false (#[] : Array Value).toList 8 = some ([], [], places) :=
  ⟨[], by kernel_rfl⟩

set_option maxRecDepth 100000 in
theorem jsonKnown_lifted (os : Os) (started : os.Started) (H : Type) (enc : TypeId × Value → H) (F : Stop.Interp) :
    ReturnsInHanded {} Tryz.checked os 8 .any ((OpenSpec.ofChange Rows.jsonKnownSpec).preRow enc Tryz.prog Tryz.f8 Rows.jsonKnownRow.domain false Rows.jsonKnownRow.laid) (((OpenSpec.ofChange Rows.jsonKnownSpec).at F).post enc Tryz.prog Tryz.f8 false true false false) := by
  obtain ⟨places, hx⟩ := jsonKnown_reads os enc
  refine returnsInHanded_of_row (C := Tryz.checked) (s := OpenSpec.ofChange Rows.jsonKnownSpec) own started (by kernel_rfl) Tryz.func8
    (witness_row_atRef (enc := enc) (C := Tryz.checked) false (jsonKnown_world os) #[] rfl (by kernel_rfl) (by kernel_rfl) (by kernel_rfl)
      (OpenSpec.preRow_of_cond 8 hx (by kernel_rfl) (fun k hk => by cases hk) (by kernel_rfl) (jsonKnown_met os))) ?_
  intro W base args ds gs before hval0 hW _ _ _ hL _ _
  have hW' := hW
  obtain ⟨p, q, hA0, hV, rfl, hfz, hnd⟩ := hW
  have hA : DataW.TrodAll enc Tryz.prog W 0 (fun _ => true) true Tryz.f8.params.toList args.toList ds p := hA0
  rw [Tryz.params8] at hA
  obtain ⟨hargs, rfl, rfl⟩ := trodAll_nil hA
  obtain rfl : args = #[] := by cases args; simp_all
  refine (jsonKnown_any W (st_row hL)).mono fun e W' ⟨he, hw⟩ => ?_
  subst he
  exact ⟨_, rfl, law_post (tb := 4) hW' rfl (by kernel_rfl) Tryz.underlying4 laidOut jsonKnown_readable (fun hg => by subst hg; rfl) hw⟩

theorem jsonKnown_said : Rows.JsonKnownSaid :=
  OpenClaim.holds_of_cond 8 Tryz.f8 rfl rfl rfl rfl rfl rfl rfl ⟨rfl, rfl, rfl, rfl, rfl⟩ rfl rfl rfl rfl rfl (by kernel_rfl) Tryz.func8 (by kernel_rfl)
    (of_decide_eq_true (by kernel_rfl)) (by unfold Func.isWrapper; first | (rw [if_pos (by decide +kernel)]; kernel_rfl) | (rw [if_neg (by decide +kernel)]; exact ⟨rfl, rfl⟩))
    (fun os started H enc _ F => by rw [OpenClaim.pre_eq_preRow]; exact jsonKnown_lifted os started H enc F)
theorem jsonKnown_card : Rows.JsonKnownCardSaid :=
  Claim7.holds_tied_plain_at .later [] _ _ _ _ jsonKnown_said (fun _ h => by cases h) (by kernel_rfl) (fun _ h => by cases h) jsonKnown_row_tie rfl ⟨rfl, rfl⟩ (by kernel_rfl) rfl
    (no_standIn (f := 8) (fn := Tryz.f8) (by kernel_rfl) Tryz.func8 (by kernel_rfl) (by kernel_rfl)) (by kernel_rfl)
#print axioms jsonKnown_card
end Go.Proofs.YtlfeddgpfaigkaaGreatDoor
