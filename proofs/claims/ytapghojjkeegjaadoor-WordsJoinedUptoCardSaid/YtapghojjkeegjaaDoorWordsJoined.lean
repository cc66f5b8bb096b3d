/-
  PROVED: stratalaw13.WordsJoined returns true and leaves its arguments as they were: two texts with a blank between have the words of the one, and then those of the other. Conditions: the arguments' bulk is at most 1048576 (the statement's second form); the row's own (the listed package variables hold what the program's text lays; the card ties that); none beyond.
-/
import Derived.Test.YtapghojjkeegjaaDoorWrdJ
import Derived.Test.YtapghojjkeegjaaDoorRowJ
namespace Go.Proofs.YtapghojjkeegjaaDoor
open Go.ChangeShapes Go.WideShapes Go.ChangeAt Go.RowKit Wrd Err

theorem wordsJoined_readable : ∀ t ∈ Tryd.f6.params.toList, Tryd.prog.readableRec t = true ∧ t < Tryd.prog.types.size := by
  intro t ht
  rw [Tryd.params6] at ht
  simp only [List.mem_cons, List.not_mem_nil, or_false] at ht
  rcases ht with rfl
  all_goals exact ⟨by kernel_rfl, of_decide_eq_true (by kernel_rfl)⟩
noncomputable def wordsJoined_world (os : Os) : World := laidWorld Rows.wordsJoinedUptoRow.laid os
theorem wordsJoined_met (os : Os) : laidMetH Tryd.prog Rows.wordsJoinedUptoRow.laid ((wordsJoined_world os).forCall (fun _ _ => 0) ⟨#[], #[Value.agg #[.string .empty, .string .empty, .int .u8 0, .int .u8 0]], []⟩).memory :=
  laidMetH_of_parts (laidMet_nil _ _) (by kernel_rfl)
theorem wordsJoined_reads (os : Os) {H : Type} (enc : TypeId × Value → H) : ∃ places, DataW.whole enc Tryd.prog ((wordsJoined_world os).forCall (fun _ _ => 0) ⟨#[], #[Value.agg #[.string .empty, .string .empty, .int .u8 0, .int .u8 0]], []⟩).memory Tryd.f6.params.toList Rows.wordsJoinedSpec.vars false #[Value.agg #[.string .empty, .string .empty, .int .u8 0, .int .u8 0]].toList 8 = some ([.agg [.lit (.string []), .lit (.string []), .lit (.int .u8 0), .lit (.int .u8 0)]], [], places) :=
  ⟨[], by kernel_rfl⟩

set_option maxRecDepth 100000 in
theorem wordsJoined_lifted (os : Os) (started : os.Started) (H : Type) (enc : TypeId × Value → H) (F : Stop.Interp) :
    ReturnsInHanded {} Tryd.checked os 6 .any ((Rows.OpenSpec.upto Rows.wordsJoinedSpec).preRow enc Tryd.prog Tryd.f6 Rows.wordsJoinedUptoRow.domain false Rows.wordsJoinedUptoRow.laid) (((Rows.OpenSpec.upto Rows.wordsJoinedSpec).at F).post enc Tryd.prog Tryd.f6 false true false false) := by
  obtain ⟨places, hx⟩ := wordsJoined_reads os enc
  refine returnsInHanded_of_row (C := Tryd.checked) (s := Rows.OpenSpec.upto Rows.wordsJoinedSpec) own started (by kernel_rfl) Tryd.func6
    (witness_row_at (enc := enc) (C := Tryd.checked) false (wordsJoined_world os) #[Value.agg #[.string .empty, .string .empty, .int .u8 0, .int .u8 0]] rfl (by kernel_rfl) (by kernel_rfl) (by kernel_rfl)
      (OpenSpec.preRow_of_cond 8 hx (by kernel_rfl) (fun k hk => by cases hk; kernel_rfl) (by kernel_rfl) (wordsJoined_met os))) ?_
  intro W base args ds gs before hval0 hW _ hcond _ hL _ _
  have hval : ∀ (j : Nat) t v, Tryd.f6.params[j]? = some t → args[j]? = some v → Value.okWide Tryd.prog W .any base t v := hval0
  have hW' := hW
  obtain ⟨p, q, hA0, hV, rfl, hfz, hnd⟩ := hW
  have hA : DataW.TrodAll enc Tryd.prog W 0 (fun _ => true) true Tryd.f6.params.toList args.toList ds p := hA0
  have hb := hcond _ rfl
  rw [Tryd.params6] at hA hval
  obtain ⟨v0, vs0, d0, ds0, p0, q0, hargs, rfl, rfl, h0, r0⟩ := trodAll_cons hA
  obtain ⟨rfl, rfl, rfl⟩ := trodAll_nil r0
  obtain rfl : args = #[v0] := by cases args; simp_all
  obtain ⟨s0, t0, c0, e0, rfl, b0⟩ := open_join (hval 0 44 v0 rfl rfl) h0
  have hbulk : Rows.uptoBulkAll (([d0] : List (DataW H)) ++ gs) ≤ 1048576 := of_decide_eq_true hb
  simp only [List.cons_append, List.nil_append, Rows.uptoBulkAll] at hbulk
  refine (wordsJoined_any s0 t0 (by omega) (by omega) c0 e0 W (errTab_row hL (List.mem_of_getElem? (i := 0) (by rfl)))).mono fun e W' ⟨he, hw⟩ => ?_
  subst he
  exact ⟨_, rfl, law_post (tb := 4) hW' rfl (by kernel_rfl) Tryd.underlying4 laidOut wordsJoined_readable (fun hg => by subst hg; rfl) hw⟩

theorem wordsJoined_said : Rows.WordsJoinedUptoSaid :=
  OpenClaim.holds_of_cond 6 Tryd.f6 rfl rfl rfl rfl rfl rfl rfl ⟨rfl, rfl, rfl, rfl, rfl⟩ rfl rfl rfl rfl rfl (by kernel_rfl) Tryd.func6 (by kernel_rfl)
    (of_decide_eq_true (by kernel_rfl)) (by unfold Func.isWrapper; first | (rw [if_pos (by decide +kernel)]; kernel_rfl) | (rw [if_neg (by decide +kernel)]; exact ⟨rfl, rfl⟩))
    (fun os started H enc _ F => by rw [OpenClaim.pre_eq_preRow]; exact wordsJoined_lifted os started H enc F)
theorem wordsJoined_card : Rows.WordsJoinedUptoCardSaid :=
  Claim7.holds_tied_plain_at .later [] _ _ _ _ wordsJoined_said (fun _ h => by cases h) (by kernel_rfl) (fun _ h => by cases h) wordsJoinedUpto_row_tie rfl ⟨rfl, rfl⟩ (by kernel_rfl) rfl
    (no_standIn (f := 6) (fn := Tryd.f6) (by kernel_rfl) Tryd.func6 (by kernel_rfl) (by kernel_rfl)) (by kernel_rfl)
#print axioms wordsJoined_card
end Go.Proofs.YtapghojjkeegjaaDoor
