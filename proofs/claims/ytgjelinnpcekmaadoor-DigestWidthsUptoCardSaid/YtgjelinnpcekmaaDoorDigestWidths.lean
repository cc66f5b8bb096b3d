/-
  PROVED: stratalaw03.DigestWidths returns true and leaves its arguments as they were: a narrower digest has the first bytes of the wider one, and noughts behind; below 1 is 1, above 32 is 32. Conditions: the arguments' bulk is at most 1048576 (the statement's second form); the row's own (the listed package variables hold what the program's text lays; the card ties that); none beyond.
-/
import Derived.Test.YtgjelinnpcekmaaDoorDigW
import Derived.Test.YtgjelinnpcekmaaDoorRowD
namespace Go.Proofs.YtgjelinnpcekmaaDoor
open Go.ChangeShapes Go.WideShapes Go.ChangeAt Go.RowKit Err Plain Sha

theorem digestWidths_readable : ∀ t ∈ Tryd.f7.params.toList, Tryd.prog.readableRec t = true ∧ t < Tryd.prog.types.size := by
  intro t ht
  rw [Tryd.params7] at ht
  simp only [List.mem_cons, List.not_mem_nil, or_false] at ht
  rcases ht with rfl | rfl | rfl
  all_goals exact ⟨by kernel_rfl, of_decide_eq_true (by kernel_rfl)⟩
noncomputable def digestWidths_world (os : Os) : World := laidWorld Rows.digestWidthsUptoRow.laid os
theorem digestWidths_met (os : Os) : laidMet Tryd.prog Rows.digestWidthsUptoRow.laid ((digestWidths_world os).forCall (fun _ _ => 0) ⟨#[], #[Value.int .i64 0, .int .i64 0, .string .empty], []⟩).memory :=
  laidMet_of_run' 8 (by kernel_rfl) (by kernel_rfl)
theorem digestWidths_reads (os : Os) {H : Type} (enc : TypeId × Value → H) : ∃ places, DataW.whole enc Tryd.prog ((digestWidths_world os).forCall (fun _ _ => 0) ⟨#[], #[Value.int .i64 0, .int .i64 0, .string .empty], []⟩).memory Tryd.f7.params.toList Rows.digestWidthsSpec.vars false #[Value.int .i64 0, .int .i64 0, .string .empty].toList 8 = some ([.lit (.int .i64 0), .lit (.int .i64 0), .lit (.string [])], [], places) :=
  ⟨[], by kernel_rfl⟩

set_option maxRecDepth 100000 in
theorem digestWidths_lifted (os : Os) (started : os.Started) (H : Type) (enc : TypeId × Value → H) (F : Stop.Interp) :
    ReturnsInHanded {} Tryd.checked os 7 .any ((Rows.OpenSpec.upto Rows.digestWidthsSpec).preRow enc Tryd.prog Tryd.f7 Rows.digestWidthsUptoRow.domain false Rows.digestWidthsUptoRow.laid) (((Rows.OpenSpec.upto Rows.digestWidthsSpec).at F).post enc Tryd.prog Tryd.f7 false true false false) := by
  obtain ⟨places, hx⟩ := digestWidths_reads os enc
  refine returnsInHanded_of_row (C := Tryd.checked) (s := Rows.OpenSpec.upto Rows.digestWidthsSpec) own started (by kernel_rfl) Tryd.func7
    (witness_row_at (enc := enc) (C := Tryd.checked) false (digestWidths_world os) #[Value.int .i64 0, .int .i64 0, .string .empty] rfl (by kernel_rfl) (by kernel_rfl) (by kernel_rfl)
      (OpenSpec.preRow_of_cond 8 hx (by kernel_rfl) (fun k hk => by cases hk; kernel_rfl) (by kernel_rfl) (digestWidths_met os))) ?_
  intro W base args ds gs before hval0 hW _ hcond _ hL _ _
  have hval : ∀ (j : Nat) t v, Tryd.f7.params[j]? = some t → args[j]? = some v → Value.okWide Tryd.prog W .any base t v := hval0
  have hW' := hW
  obtain ⟨p, q, hA0, hV, rfl, hfz, hnd⟩ := hW
  have hA : DataW.TrodAll enc Tryd.prog W 0 (fun _ => true) true Tryd.f7.params.toList args.toList ds p := hA0
  have hb := hcond _ rfl
  rw [Tryd.params7] at hA hval
  obtain ⟨v0, vs0, d0, ds0, p0, q0, hargs, rfl, rfl, h0, r0⟩ := trodAll_cons hA
  obtain ⟨v1, vs1, d1, ds1, p1, q1, rfl, rfl, rfl, h1, r1⟩ := trodAll_cons r0
  obtain ⟨v2, vs2, d2, ds2, p2, q2, rfl, rfl, rfl, h2, r2⟩ := trodAll_cons r1
  obtain ⟨rfl, rfl, rfl⟩ := trodAll_nil r2
  obtain rfl : args = #[v0, v1, v2] := by cases args; simp_all
  obtain ⟨n0, rfl, _, _, w0⟩ := open_int Tryd.underlying3 (hval 0 3 v0 rfl rfl) h0
  obtain ⟨n1, rfl, _, _, w1⟩ := open_int Tryd.underlying3 (hval 1 3 v1 rfl rfl) h1
  obtain ⟨s2, rfl, b2⟩ := open_text Tryd.underlying9 (hval 2 9 v2 rfl rfl) h2
  have hbulk : Rows.uptoBulkAll (([d0, d1, d2] : List (DataW H)) ++ gs) ≤ 1048576 := of_decide_eq_true hb
  simp only [List.cons_append, List.nil_append, Rows.uptoBulkAll] at hbulk
  refine (digestWidths_any n0 n1 s2 W (by omega) (ktab_row hL (List.mem_of_getElem? (i := 3) (by rfl))) (tab10_row hL (List.mem_of_getElem? (i := 2) (by rfl)))).mono fun e W' ⟨he, hw⟩ => ?_
  subst he
  exact ⟨_, rfl, law_post (tb := 4) hW' rfl (by kernel_rfl) Tryd.underlying4 laidOut digestWidths_readable (fun hg => by subst hg; rfl) hw⟩

theorem digestWidths_said : Rows.DigestWidthsUptoSaid :=
  OpenClaim.holds_of_cond 7 Tryd.f7 rfl rfl rfl rfl rfl rfl rfl ⟨rfl, rfl, rfl, rfl, rfl⟩ rfl rfl rfl rfl rfl (by kernel_rfl) Tryd.func7 (by kernel_rfl)
    (of_decide_eq_true (by kernel_rfl)) (by unfold Func.isWrapper; first | (rw [if_pos (by decide +kernel)]; kernel_rfl) | (rw [if_neg (by decide +kernel)]; exact ⟨rfl, rfl⟩))
    (fun os started H enc _ F => by rw [OpenClaim.pre_eq_preRow]; exact digestWidths_lifted os started H enc F)
theorem digestWidths_card : Rows.DigestWidthsUptoCardSaid :=
  Claim7.holds_tied_plain_at .later [] _ _ _ _ digestWidths_said (fun _ h => by cases h) (by kernel_rfl) (fun _ h => by cases h) digestWidthsUpto_row_tie rfl ⟨rfl, rfl⟩ (by kernel_rfl) rfl
    (no_standIn (f := 7) (fn := Tryd.f7) (by kernel_rfl) Tryd.func7 (by kernel_rfl) (by kernel_rfl)) (by kernel_rfl)
#print axioms digestWidths_card
end Go.Proofs.YtgjelinnpcekmaaDoor
