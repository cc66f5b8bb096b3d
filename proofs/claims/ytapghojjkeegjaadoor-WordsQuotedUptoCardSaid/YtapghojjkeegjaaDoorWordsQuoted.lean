/-
  PROVED: stratalaw13.WordsQuoted returns true and leaves its arguments as they were: texts that are quoted, with blanks between, are as many words, each as it was quoted. Conditions: the arguments' bulk is at most 1048576 (the statement's second form); the row's own (the listed package variables hold what the program's text lays; the card ties that); none beyond.
-/
import Derived.Test.YtapghojjkeegjaaDoorWrdD
import Derived.Test.YtapghojjkeegjaaDoorRowT
namespace Go.Proofs.YtapghojjkeegjaaDoor
open Go.ChangeShapes Go.WideShapes Go.ChangeAt Go.RowKit Wrd Err

theorem wordsQuoted_readable : ∀ t ∈ Tryd.f7.params.toList, Tryd.prog.readableRec t = true ∧ t < Tryd.prog.types.size := by
  intro t ht
  rw [Tryd.params7] at ht
  simp only [List.mem_cons, List.not_mem_nil, or_false] at ht
  rcases ht with rfl | rfl
  all_goals exact ⟨by kernel_rfl, of_decide_eq_true (by kernel_rfl)⟩
noncomputable def wordsQuoted_world (os : Os) : World := laidWorld Rows.wordsQuotedUptoRow.laid os
theorem wordsQuoted_met (os : Os) : laidMetH Tryd.prog Rows.wordsQuotedUptoRow.laid ((wordsQuoted_world os).forCall (fun _ _ => 0) ⟨#[], #[Value.slice none 0 0, .int .u8 0], []⟩).memory :=
  laidMetH_of_parts (laidMet_nil _ _) (by kernel_rfl)
theorem wordsQuoted_reads (os : Os) {H : Type} (enc : TypeId × Value → H) : ∃ places, DataW.whole enc Tryd.prog ((wordsQuoted_world os).forCall (fun _ _ => 0) ⟨#[], #[Value.slice none 0 0, .int .u8 0], []⟩).memory Tryd.f7.params.toList Rows.wordsQuotedSpec.vars false #[Value.slice none 0 0, .int .u8 0].toList 8 = some ([.nil, .lit (.int .u8 0)], [], places) :=
  ⟨[], by kernel_rfl⟩

set_option maxRecDepth 100000 in
theorem wordsQuoted_lifted (os : Os) (started : os.Started) (H : Type) (enc : TypeId × Value → H) (F : Stop.Interp) :
    ReturnsInHanded {} Tryd.checked os 7 .any ((Rows.OpenSpec.upto Rows.wordsQuotedSpec).preRow enc Tryd.prog Tryd.f7 Rows.wordsQuotedUptoRow.domain false Rows.wordsQuotedUptoRow.laid) (((Rows.OpenSpec.upto Rows.wordsQuotedSpec).at F).post enc Tryd.prog Tryd.f7 false true false false) := by
  obtain ⟨places, hx⟩ := wordsQuoted_reads os enc
  refine returnsInHanded_of_row (C := Tryd.checked) (s := Rows.OpenSpec.upto Rows.wordsQuotedSpec) own started (by kernel_rfl) Tryd.func7
    (witness_row_at (enc := enc) (C := Tryd.checked) false (wordsQuoted_world os) #[Value.slice none 0 0, .int .u8 0] rfl (by kernel_rfl) (by kernel_rfl) (by kernel_rfl)
      (OpenSpec.preRow_of_cond 8 hx (by kernel_rfl) (fun k hk => by cases hk; kernel_rfl) (by kernel_rfl) (wordsQuoted_met os))) ?_
  intro W base args ds gs before hval0 hW _ hcond _ hL _ _
  have hval : ∀ (j : Nat) t v, Tryd.f7.params[j]? = some t → args[j]? = some v → Value.okWide Tryd.prog W .any base t v := hval0
  have hW' := hW
  obtain ⟨p, q, hA0, hV, rfl, hfz, hnd⟩ := hW
  have hA : DataW.TrodAll enc Tryd.prog W 0 (fun _ => true) true Tryd.f7.params.toList args.toList ds p := hA0
  have hb := hcond _ rfl
  rw [Tryd.params7] at hA hval
  obtain ⟨v0, vs0, d0, ds0, p0, q0, hargs, rfl, rfl, h0, r0⟩ := trodAll_cons hA
  obtain ⟨v1, vs1, d1, ds1, p1, q1, rfl, rfl, rfl, h1, r1⟩ := trodAll_cons r0
  obtain ⟨rfl, rfl, rfl⟩ := trodAll_nil r1
  obtain rfl : args = #[v0, v1] := by cases args; simp_all
  obtain ⟨A0, n0, k0, l0, rfl, hr0, b0⟩ := open_texts Tryd.underlying47 Tryd.underlying9 (by kernel_rfl) (hval 0 47 v0 rfl rfl) h0
  obtain ⟨c1, rfl⟩ := open_u8 Tryd.underlying5 (hval 1 5 v1 rfl rfl) h1
  have hbulk : Rows.uptoBulkAll (([d0, d1] : List (DataW H)) ++ gs) ≤ 1048576 := of_decide_eq_true hb
  simp only [List.cons_append, List.nil_append, Rows.uptoBulkAll] at hbulk
  have hn0 : l0.length = n0 := by have := hr0.1; rw [tx_length] at this; omega
  refine (wordsQuoted_any A0 n0 k0 l0 c1 W hr0 (by omega) (by omega) (errTab_row hL (List.mem_of_getElem? (i := 0) (by rfl)))).mono fun e W' ⟨he, hw⟩ => ?_
  subst he
  exact ⟨_, rfl, law_post (tb := 4) hW' rfl (by kernel_rfl) Tryd.underlying4 laidOut wordsQuoted_readable (fun hg => by subst hg; rfl) hw⟩

theorem wordsQuoted_said : Rows.WordsQuotedUptoSaid :=
  OpenClaim.holds_of_cond 7 Tryd.f7 rfl rfl rfl rfl rfl rfl rfl ⟨rfl, rfl, rfl, rfl, rfl⟩ rfl rfl rfl rfl rfl (by kernel_rfl) Tryd.func7 (by kernel_rfl)
    (of_decide_eq_true (by kernel_rfl)) (by unfold Func.isWrapper; first | (rw [if_pos (by decide +kernel)]; kernel_rfl) | (rw [if_neg (by decide +kernel)]; exact ⟨rfl, rfl⟩))
    (fun os started H enc _ F => by rw [OpenClaim.pre_eq_preRow]; exact wordsQuoted_lifted os started H enc F)
theorem wordsQuoted_card : Rows.WordsQuotedUptoCardSaid :=
  Claim7.holds_tied_plain_at .later [] _ _ _ _ wordsQuoted_said (fun _ h => by cases h) (by kernel_rfl) (fun _ h => by cases h) wordsQuotedUpto_row_tie rfl ⟨rfl, rfl⟩ (by kernel_rfl) rfl
    (no_standIn (f := 7) (fn := Tryd.f7) (by kernel_rfl) Tryd.func7 (by kernel_rfl) (by kernel_rfl)) (by kernel_rfl)
#print axioms wordsQuoted_card
end Go.Proofs.YtapghojjkeegjaaDoor
