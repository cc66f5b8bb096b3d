/-
  PROVED: stratalaw03.DigestCuts returns true and leaves its arguments as they were: of every text, twice: the pieces, or the error with its place; the answers share no memory. Conditions: the arguments' bulk is at most 1048576 (the statement's second form); the row's own (the listed package variables hold what the program's text lays; the card ties that); none beyond.
-/
import Derived.Test.YtgjelinnpcekmaaDoorDigC
import Derived.Test.YtgjelinnpcekmaaDoorRowD
namespace Go.Proofs.YtgjelinnpcekmaaDoor
open Go.ChangeShapes Go.WideShapes Go.ChangeAt Go.RowKit Err Plain Sha

theorem digestCuts_readable : ∀ t ∈ Tryd.f10.params.toList, Tryd.prog.readableRec t = true ∧ t < Tryd.prog.types.size := by
  intro t ht
  rw [Tryd.params10] at ht
  simp only [List.mem_cons, List.not_mem_nil, or_false] at ht
  rcases ht with rfl
  all_goals exact ⟨by kernel_rfl, of_decide_eq_true (by kernel_rfl)⟩
noncomputable def digestCuts_world (os : Os) : World := laidWorld Rows.digestCutsUptoRow.laid os
theorem digestCuts_met (os : Os) : laidMetH Tryd.prog Rows.digestCutsUptoRow.laid ((digestCuts_world os).forCall (fun _ _ => 0) ⟨#[], #[Value.string .empty], []⟩).memory :=
  laidMetH_of_parts (laidMet_of_run' 8 (by kernel_rfl) (by kernel_rfl)) (by kernel_rfl)
theorem digestCuts_reads (os : Os) {H : Type} (enc : TypeId × Value → H) : ∃ places, DataW.whole enc Tryd.prog ((digestCuts_world os).forCall (fun _ _ => 0) ⟨#[], #[Value.string .empty], []⟩).memory Tryd.f10.params.toList Rows.digestCutsSpec.vars false #[Value.string .empty].toList 8 = some ([.lit (.string [])], [], places) :=
  ⟨[], by kernel_rfl⟩

set_option maxRecDepth 100000 in
theorem digestCuts_lifted (os : Os) (started : os.Started) (H : Type) (enc : TypeId × Value → H) (F : Stop.Interp) :
    ReturnsInHanded {} Tryd.checked os 10 .any ((Rows.OpenSpec.upto Rows.digestCutsSpec).preRow enc Tryd.prog Tryd.f10 Rows.digestCutsUptoRow.domain false Rows.digestCutsUptoRow.laid) (((Rows.OpenSpec.upto Rows.digestCutsSpec).at F).post enc Tryd.prog Tryd.f10 false true false false) := by
  obtain ⟨places, hx⟩ := digestCuts_reads os enc
  refine returnsInHanded_of_row (C := Tryd.checked) (s := Rows.OpenSpec.upto Rows.digestCutsSpec) own started (by kernel_rfl) Tryd.func10
    (witness_row_at (enc := enc) (C := Tryd.checked) false (digestCuts_world os) #[Value.string .empty] rfl (by kernel_rfl) (by kernel_rfl) (by kernel_rfl)
      (OpenSpec.preRow_of_cond 8 hx (by kernel_rfl) (fun k hk => by cases hk; kernel_rfl) (by kernel_rfl) (digestCuts_met os))) ?_
  intro W base args ds gs before hval0 hW _ hcond _ hL _ _
  have hval : ∀ (j : Nat) t v, Tryd.f10.params[j]? = some t → args[j]? = some v → Value.okWide Tryd.prog W .any base t v := hval0
  have hW' := hW
  obtain ⟨p, q, hA0, hV, rfl, hfz, hnd⟩ := hW
  have hA : DataW.TrodAll enc Tryd.prog W 0 (fun _ => true) true Tryd.f10.params.toList args.toList ds p := hA0
  have hb := hcond _ rfl
  rw [Tryd.params10] at hA hval
  obtain ⟨v0, vs0, d0, ds0, p0, q0, hargs, rfl, rfl, h0, r0⟩ := trodAll_cons hA
  obtain ⟨rfl, rfl, rfl⟩ := trodAll_nil r0
  obtain rfl : args = #[v0] := by cases args; simp_all
  obtain ⟨s0, rfl, b0⟩ := open_text Tryd.underlying9 (hval 0 9 v0 rfl rfl) h0
  have hbulk : Rows.uptoBulkAll (([d0] : List (DataW H)) ++ gs) ≤ 1048576 := of_decide_eq_true hb
  simp only [List.cons_append, List.nil_append, Rows.uptoBulkAll] at hbulk
  refine (digestCuts_any s0 W (by omega) (ktab_row hL (List.mem_of_getElem? (i := 4) (by rfl))) (tab10_row hL (List.mem_of_getElem? (i := 2) (by rfl))) (errTab_row hL (List.mem_of_getElem? (i := 3) (by rfl)))).mono fun e W' ⟨he, hw⟩ => ?_
  subst he
  exact ⟨_, rfl, law_post (tb := 4) hW' rfl (by kernel_rfl) Tryd.underlying4 laidOut digestCuts_readable (fun hg => by subst hg; rfl) hw⟩

theorem digestCuts_said : Rows.DigestCutsUptoSaid :=
  OpenClaim.holds_of_cond 10 Tryd.f10 rfl rfl rfl rfl rfl rfl rfl ⟨rfl, rfl, rfl, rfl, rfl⟩ rfl rfl rfl rfl rfl (by kernel_rfl) Tryd.func10 (by kernel_rfl)
    (of_decide_eq_true (by kernel_rfl)) (by unfold Func.isWrapper; first | (rw [if_pos (by decide +kernel)]; kernel_rfl) | (rw [if_neg (by decide +kernel)]; exact ⟨rfl, rfl⟩))
    (fun os started H enc _ F => by rw [OpenClaim.pre_eq_preRow]; exact digestCuts_lifted os started H enc F)
theorem digestCuts_card : Rows.DigestCutsUptoCardSaid :=
  Claim7.holds_tied_plain_at .later [] _ _ _ _ digestCuts_said (fun _ h => by cases h) (by kernel_rfl) (fun _ h => by cases h) digestCutsUpto_row_tie rfl ⟨rfl, rfl⟩ (by kernel_rfl) rfl
    (no_standIn (f := 10) (fn := Tryd.f10) (by kernel_rfl) Tryd.func10 (by kernel_rfl) (by kernel_rfl)) (by kernel_rfl)
#print axioms digestCuts_card
end Go.Proofs.YtgjelinnpcekmaaDoor
