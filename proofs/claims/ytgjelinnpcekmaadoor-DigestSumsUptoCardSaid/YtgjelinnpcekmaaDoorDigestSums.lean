/-
  PROVED: stratalaw03.DigestSums returns true and leaves its arguments as they were: every width and text: the digest that the document tells, twice. Conditions: the arguments' bulk is at most 1048576 (the statement's second form); the row's own (the listed package variables hold what the program's text lays; the card ties that); none beyond.
-/
import Derived.Test.YtgjelinnpcekmaaDoorDigS
import Derived.Test.YtgjelinnpcekmaaDoorRowE
namespace Go.Proofs.YtgjelinnpcekmaaDoor
open Go.ChangeShapes Go.WideShapes Go.ChangeAt Go.RowKit Err Plain Sha

theorem digestSums_readable : ∀ t ∈ Tryd.f4.params.toList, Tryd.prog.readableRec t = true ∧ t < Tryd.prog.types.size := by
  intro t ht
  rw [Tryd.params4] at ht
  simp only [List.mem_cons, List.not_mem_nil, or_false] at ht
  rcases ht with rfl | rfl
  all_goals exact ⟨by kernel_rfl, of_decide_eq_true (by kernel_rfl)⟩
noncomputable def digestSums_world (os : Os) : World := laidWorld Rows.digestSumsUptoRow.laid os
theorem digestSums_met (os : Os) : laidMet Tryd.prog Rows.digestSumsUptoRow.laid ((digestSums_world os).forCall (fun _ _ => 0) ⟨#[], #[Value.int .i64 0, .string .empty], []⟩).memory :=
  laidMet_of_run' 8 (by kernel_rfl) (by kernel_rfl)
theorem digestSums_reads (os : Os) {H : Type} (enc : TypeId × Value → H) : ∃ places, DataW.whole enc Tryd.prog ((digestSums_world os).forCall (fun _ _ => 0) ⟨#[], #[Value.int .i64 0, .string .empty], []⟩).memory Tryd.f4.params.toList Rows.digestSumsSpec.vars false #[Value.int .i64 0, .string .empty].toList 8 = some ([.lit (.int .i64 0), .lit (.string [])], [], places) :=
  ⟨[], by kernel_rfl⟩

set_option maxRecDepth 100000 in
theorem digestSums_lifted (os : Os) (started : os.Started) (H : Type) (enc : TypeId × Value → H) (F : Stop.Interp) :
    ReturnsInHanded {} Tryd.checked os 4 .any ((Rows.OpenSpec.upto Rows.digestSumsSpec).preRow enc Tryd.prog Tryd.f4 Rows.digestSumsUptoRow.domain false Rows.digestSumsUptoRow.laid) (((Rows.OpenSpec.upto Rows.digestSumsSpec).at F).post enc Tryd.prog Tryd.f4 false true false false) := by
  obtain ⟨places, hx⟩ := digestSums_reads os enc
  refine returnsInHanded_of_row (C := Tryd.checked) (s := Rows.OpenSpec.upto Rows.digestSumsSpec) own started (by kernel_rfl) Tryd.func4
    (witness_row_at (enc := enc) (C := Tryd.checked) false (digestSums_world os) #[Value.int .i64 0, .string .empty] rfl (by kernel_rfl) (by kernel_rfl) (by kernel_rfl)
      (OpenSpec.preRow_of_cond 8 hx (by kernel_rfl) (fun k hk => by cases hk; kernel_rfl) (by kernel_rfl) (digestSums_met os))) ?_
  intro W base args ds gs before hval0 hW _ hcond _ hL _ _
  have hval : ∀ (j : Nat) t v, Tryd.f4.params[j]? = some t → args[j]? = some v → Value.okWide Tryd.prog W .any base t v := hval0
  have hW' := hW
  obtain ⟨p, q, hA0, hV, rfl, hfz, hnd⟩ := hW
  have hA : DataW.TrodAll enc Tryd.prog W 0 (fun _ => true) true Tryd.f4.params.toList args.toList ds p := hA0
  have hb := hcond _ rfl
  rw [Tryd.params4] at hA hval
  obtain ⟨v0, vs0, d0, ds0, p0, q0, hargs, rfl, rfl, h0, r0⟩ := trodAll_cons hA
  obtain ⟨v1, vs1, d1, ds1, p1, q1, rfl, rfl, rfl, h1, r1⟩ := trodAll_cons r0
  obtain ⟨rfl, rfl, rfl⟩ := trodAll_nil r1
  obtain rfl : args = #[v0, v1] := by cases args; simp_all
  obtain ⟨n0, rfl, _, _, w0⟩ := open_int Tryd.underlying3 (hval 0 3 v0 rfl rfl) h0
  obtain ⟨s1, rfl, b1⟩ := open_text Tryd.underlying9 (hval 1 9 v1 rfl rfl) h1
  have hbulk : Rows.uptoBulkAll (([d0, d1] : List (DataW H)) ++ gs) ≤ 1048576 := of_decide_eq_true hb
  simp only [List.cons_append, List.nil_append, Rows.uptoBulkAll] at hbulk
  refine (digestSums_any n0 s1 W (by omega) (ktab_row hL (List.mem_of_getElem? (i := 5) (by rfl))) (rtab_row hL (List.mem_of_getElem? (i := 4) (by rfl))) (btab_row hL (List.mem_of_getElem? (i := 3) (by rfl))) (tab10_row hL (List.mem_of_getElem? (i := 2) (by rfl)))).mono fun e W' ⟨he, hw⟩ => ?_
  subst he
  exact ⟨_, rfl, law_post (tb := 4) hW' rfl (by kernel_rfl) Tryd.underlying4 laidOut digestSums_readable (fun hg => by subst hg; rfl) hw⟩

theorem digestSums_said : Rows.DigestSumsUptoSaid :=
  OpenClaim.holds_of_cond 4 Tryd.f4 rfl rfl rfl rfl rfl rfl rfl ⟨rfl, rfl, rfl, rfl, rfl⟩ rfl rfl rfl rfl rfl (by kernel_rfl) Tryd.func4 (by kernel_rfl)
    (of_decide_eq_true (by kernel_rfl)) (by unfold Func.isWrapper; first | (rw [if_pos (by decide +kernel)]; kernel_rfl) | (rw [if_neg (by decide +kernel)]; exact ⟨rfl, rfl⟩))
    (fun os started H enc _ F => by rw [OpenClaim.pre_eq_preRow]; exact digestSums_lifted os started H enc F)
theorem digestSums_card : Rows.DigestSumsUptoCardSaid :=
  Claim7.holds_tied_plain_at .later [] _ _ _ _ digestSums_said (fun _ h => by cases h) (by kernel_rfl) (fun _ h => by cases h) digestSumsUpto_row_tie rfl ⟨rfl, rfl⟩ (by kernel_rfl) rfl
    (no_standIn (f := 4) (fn := Tryd.f4) (by kernel_rfl) Tryd.func4 (by kernel_rfl) (by kernel_rfl)) (by kernel_rfl)
#print axioms digestSums_card
end Go.Proofs.YtgjelinnpcekmaaDoor
