/-
  PROVED: stratalaw13.WordsSplits returns true and leaves its arguments as they were: every text and escape: the document's words, or where a quote has no end; new memory. Conditions: the arguments' bulk is at most 1048576 (the statement's second form); the row's own (the listed package variables hold what the program's text lays; the card ties that); none beyond.
-/
import Derived.Test.YtapghojjkeegjaaDoorWrdX
import Derived.Test.YtapghojjkeegjaaDoorRowH
namespace Go.Proofs.YtapghojjkeegjaaDoor
open Go.ChangeShapes Go.WideShapes Go.ChangeAt Go.RowKit Wrd Err

theorem wordsSplits_readable : ∀ t ∈ Tryd.f3.params.toList, Tryd.prog.readableRec t = true ∧ t < Tryd.prog.types.size := by
  intro t ht
  rw [Tryd.params3] at ht
  simp only [List.mem_cons, List.not_mem_nil, or_false] at ht
  rcases ht with rfl | rfl | rfl
  all_goals exact ⟨by kernel_rfl, of_decide_eq_true (by kernel_rfl)⟩
noncomputable def wordsSplits_world (os : Os) : World := laidWorld Rows.wordsSplitsUptoRow.laid os
theorem wordsSplits_met (os : Os) : laidMetH Tryd.prog Rows.wordsSplitsUptoRow.laid ((wordsSplits_world os).forCall (fun _ _ => 0) ⟨#[], #[Value.string .empty, .int .u8 0, .string .empty], []⟩).memory :=
  laidMetH_of_parts (laidMet_nil _ _) (by kernel_rfl)
theorem wordsSplits_reads (os : Os) {H : Type} (enc : TypeId × Value → H) : ∃ places, DataW.whole enc Tryd.prog ((wordsSplits_world os).forCall (fun _ _ => 0) ⟨#[], #[Value.string .empty, .int .u8 0, .string .empty], []⟩).memory Tryd.f3.params.toList Rows.wordsSplitsSpec.vars false #[Value.string .empty, .int .u8 0, .string .empty].toList 8 = some ([.lit (.string []), .lit (.int .u8 0), .lit (.string [])], [], places) :=
  ⟨[], by kernel_rfl⟩

set_option maxRecDepth 100000 in
theorem wordsSplits_lifted (os : Os) (started : os.Started) (H : Type) (enc : TypeId × Value → H) (F : Stop.Interp) :
    ReturnsInHanded {} Tryd.checked os 3 .any ((Rows.OpenSpec.upto Rows.wordsSplitsSpec).preRow enc Tryd.prog Tryd.f3 Rows.wordsSplitsUptoRow.domain false Rows.wordsSplitsUptoRow.laid) (((Rows.OpenSpec.upto Rows.wordsSplitsSpec).at F).post enc Tryd.prog Tryd.f3 false true false false) := by
  obtain ⟨places, hx⟩ := wordsSplits_reads os enc
  refine returnsInHanded_of_row (C := Tryd.checked) (s := Rows.OpenSpec.upto Rows.wordsSplitsSpec) own started (by kernel_rfl) Tryd.func3
    (witness_row_at (enc := enc) (C := Tryd.checked) false (wordsSplits_world os) #[Value.string .empty, .int .u8 0, .string .empty] rfl (by kernel_rfl) (by kernel_rfl) (by kernel_rfl)
      (OpenSpec.preRow_of_cond 8 hx (by kernel_rfl) (fun k hk => by cases hk; kernel_rfl) (by kernel_rfl) (wordsSplits_met os))) ?_
  intro W base args ds gs before hval0 hW _ hcond _ hL _ _
  have hval : ∀ (j : Nat) t v, Tryd.f3.params[j]? = some t → args[j]? = some v → Value.okWide Tryd.prog W .any base t v := hval0
  have hW' := hW
  obtain ⟨p, q, hA0, hV, rfl, hfz, hnd⟩ := hW
  have hA : DataW.TrodAll enc Tryd.prog W 0 (fun _ => true) true Tryd.f3.params.toList args.toList ds p := hA0
  have hb := hcond _ rfl
  rw [Tryd.params3] at hA hval
  obtain ⟨v0, vs0, d0, ds0, p0, q0, hargs, rfl, rfl, h0, r0⟩ := trodAll_cons hA
  obtain ⟨v1, vs1, d1, ds1, p1, q1, rfl, rfl, rfl, h1, r1⟩ := trodAll_cons r0
  obtain ⟨v2, vs2, d2, ds2, p2, q2, rfl, rfl, rfl, h2, r2⟩ := trodAll_cons r1
  obtain ⟨rfl, rfl, rfl⟩ := trodAll_nil r2
  obtain rfl : args = #[v0, v1, v2] := by cases args; simp_all
  obtain ⟨s0, rfl, b0⟩ := open_text Tryd.underlying9 (hval 0 9 v0 rfl rfl) h0
  obtain ⟨c1, rfl⟩ := open_u8 Tryd.underlying5 (hval 1 5 v1 rfl rfl) h1
  obtain ⟨s2, rfl, b2⟩ := open_text Tryd.underlying9 (hval 2 9 v2 rfl rfl) h2
  have hbulk : Rows.uptoBulkAll (([d0, d1, d2] : List (DataW H)) ++ gs) ≤ 1048576 := of_decide_eq_true hb
  simp only [List.cons_append, List.nil_append, Rows.uptoBulkAll] at hbulk
  refine (wordsSplits_any s0 (by omega) c1 s2 (by omega) W (errTab_row hL (List.mem_of_getElem? (i := 0) (by rfl)))).mono fun e W' ⟨he, hw⟩ => ?_
  subst he
  exact ⟨_, rfl, law_post (tb := 4) hW' rfl (by kernel_rfl) Tryd.underlying4 laidOut wordsSplits_readable (fun hg => by subst hg; rfl) hw⟩

theorem wordsSplits_said : Rows.WordsSplitsUptoSaid :=
  OpenClaim.holds_of_cond 3 Tryd.f3 rfl rfl rfl rfl rfl rfl rfl ⟨rfl, rfl, rfl, rfl, rfl⟩ rfl rfl rfl rfl rfl (by kernel_rfl) Tryd.func3 (by kernel_rfl)
    (of_decide_eq_true (by kernel_rfl)) (by unfold Func.isWrapper; first | (rw [if_pos (by decide +kernel)]; kernel_rfl) | (rw [if_neg (by decide +kernel)]; exact ⟨rfl, rfl⟩))
    (fun os started H enc _ F => by rw [OpenClaim.pre_eq_preRow]; exact wordsSplits_lifted os started H enc F)
theorem wordsSplits_card : Rows.WordsSplitsUptoCardSaid :=
  Claim7.holds_tied_plain_at .later [] _ _ _ _ wordsSplits_said (fun _ h => by cases h) (by kernel_rfl) (fun _ h => by cases h) wordsSplitsUpto_row_tie rfl ⟨rfl, rfl⟩ (by kernel_rfl) rfl
    (no_standIn (f := 3) (fn := Tryd.f3) (by kernel_rfl) Tryd.func3 (by kernel_rfl) (by kernel_rfl)) (by kernel_rfl)
#print axioms wordsSplits_card
end Go.Proofs.YtapghojjkeegjaaDoor
