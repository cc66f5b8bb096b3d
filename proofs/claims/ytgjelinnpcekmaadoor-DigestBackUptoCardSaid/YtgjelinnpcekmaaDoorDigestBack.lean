/-
  PROVED: stratalaw03.DigestBack returns true and leaves its arguments as they were: what Pieces lays is found again by Cut, and nothing else is. Conditions: the arguments' bulk is at most 1048576 (the statement's second form); the three listed tables of the library hold their numbers; none beyond the row's own.
-/
import Derived.Test.YtgjelinnpcekmaaDoorPcsB
import Derived.Test.YtgjelinnpcekmaaDoorRow
namespace Go.Proofs.YtgjelinnpcekmaaDoor
open Go.ChangeShapes Go.WideShapes Go.ChangeAt Go.RowKit Plain

theorem digestBack_readable : ∀ t ∈ Tryd.f3.params.toList, Tryd.prog.readableRec t = true ∧ t < Tryd.prog.types.size := by
  intro t ht
  rw [Tryd.params3] at ht
  simp only [List.mem_cons, List.not_mem_nil, or_false] at ht
  rcases ht with rfl | rfl | rfl
  all_goals exact ⟨by kernel_rfl, of_decide_eq_true (by kernel_rfl)⟩
theorem tab10_row {W : World} (h : laidMetH Tryd.prog Rows.digestBackUptoRow.laid W) : Tab10 W :=
  tab_of_laid (t := 145) (e := 87) (n := 20) tab10_named (by kernel_rfl) Tryd.underlying145 Tryd.underlying87 (by kernel_rfl) (by kernel_rfl) h
    (List.mem_of_getElem? (i := 2) (by rfl))

noncomputable def digestBack_world (os : Os) : World := laidWorld Rows.digestBackUptoRow.laid os
theorem digestBack_met (os : Os) : laidMet Tryd.prog Rows.digestBackUptoRow.laid ((digestBack_world os).forCall (fun _ _ => 0) ⟨#[], #[.slice none 0 0, .slice none 0 0, .string .empty], []⟩).memory :=
  laidMet_of_run' 8 (by kernel_rfl) (by kernel_rfl)
theorem digestBack_reads (os : Os) {H : Type} (enc : TypeId × Value → H) : ∃ places, DataW.whole enc Tryd.prog ((digestBack_world os).forCall (fun _ _ => 0) ⟨#[], #[.slice none 0 0, .slice none 0 0, .string .empty], []⟩).memory Tryd.f3.params.toList Rows.digestBackSpec.vars false #[Value.slice none 0 0, .slice none 0 0, .string .empty].toList 8 = some ([.nil, .nil, .lit (.string [])], [], places) :=
  ⟨[], by kernel_rfl⟩

set_option maxRecDepth 100000 in
theorem digestBack_lifted (os : Os) (started : os.Started) (H : Type) (enc : TypeId × Value → H) (F : Stop.Interp) :
    ReturnsInHanded {} Tryd.checked os 3 .any ((Rows.OpenSpec.upto Rows.digestBackSpec).preRow enc Tryd.prog Tryd.f3 Rows.digestBackUptoRow.domain false Rows.digestBackUptoRow.laid) (((Rows.OpenSpec.upto Rows.digestBackSpec).at F).post enc Tryd.prog Tryd.f3 false true false false) := by
  obtain ⟨places, hx⟩ := digestBack_reads os enc
  refine returnsInHanded_of_row (C := Tryd.checked) (s := Rows.OpenSpec.upto Rows.digestBackSpec) own started (by kernel_rfl) Tryd.func3
    (witness_row_at (enc := enc) (C := Tryd.checked) false (digestBack_world os) #[.slice none 0 0, .slice none 0 0, .string .empty] rfl (by kernel_rfl) (by kernel_rfl) (by kernel_rfl)
      (OpenSpec.preRow_of_cond 8 hx (by kernel_rfl) (fun k hk => by cases hk; kernel_rfl) (by kernel_rfl) (digestBack_met os))) ?_
  intro W base args ds gs before hval0 hW _ hcond _ hL _ _
  have hval : ∀ (j : Nat) t v, Tryd.f3.params[j]? = some t → args[j]? = some v → Value.okWide Tryd.prog W .any base t v := hval0
  have hW' := hW
  obtain ⟨p, q, hA0, hV, rfl, hfz, hnd⟩ := hW
  have hA : DataW.TrodAll enc Tryd.prog W 0 (fun _ => true) true Tryd.f3.params.toList args.toList ds p := hA0
  have hb := hcond _ rfl
  rw [Tryd.params3] at hA hval
  obtain ⟨v0, vs0, d0, ds0, p0, q0, hargs, rfl, rfl, h0, r0⟩ := trodAll_cons hA
  obtain ⟨v1, vs1, d1, ds1, p1, q1, rfl, rfl, rfl, h1, r1⟩ := trodAll_cons r0
  obtain ⟨v2, vs2, d2, ds2, p2, q2, rfl, rfl, rfl, h2, r2⟩ := trodAll_cons r1
  obtain ⟨rfl, rfl, rfl⟩ := trodAll_nil r2
  obtain rfl : args = #[v0, v1, v2] := by cases args; simp_all
  obtain ⟨A, n, c, l, rfl, hr0, b0⟩ := open_texts Tryd.underlying22 Tryd.underlying9 (by kernel_rfl) (hval 0 22 v0 rfl rfl) h0
  obtain ⟨A', n', c', m, rfl, hr1, b1⟩ := open_texts Tryd.underlying22 Tryd.underlying9 (by kernel_rfl) (hval 1 22 v1 rfl rfl) h1
  obtain ⟨s, rfl, b2⟩ := open_text Tryd.underlying9 (hval 2 9 v2 rfl rfl) h2
  have hbulk : Rows.uptoBulkAll (([d0, d1, d2] : List (DataW H)) ++ gs) ≤ 1048576 := of_decide_eq_true hb
  simp only [List.cons_append, List.nil_append, Rows.uptoBulkAll] at hbulk
  refine (digestBack_any A A' n c n' c' l m s W hr0 hr1 (by omega) (by omega) (by omega) (tab10_row hL)).mono fun e W' ⟨he, hw⟩ => ?_
  subst he
  exact ⟨_, rfl, law_post (tb := 4) hW' rfl (by kernel_rfl) Tryd.underlying4 laidOut digestBack_readable (fun hg => by subst hg; rfl) hw⟩

theorem digestBack_said : Rows.DigestBackUptoSaid :=
  OpenClaim.holds_of_cond 3 Tryd.f3 rfl rfl rfl rfl rfl rfl rfl ⟨rfl, rfl, rfl, rfl, rfl⟩ rfl rfl rfl rfl rfl (by kernel_rfl) Tryd.func3 (by kernel_rfl)
    (of_decide_eq_true (by kernel_rfl)) (by unfold Func.isWrapper; first | (rw [if_pos (by decide +kernel)]; kernel_rfl) | (rw [if_neg (by decide +kernel)]; exact ⟨rfl, rfl⟩))
    (fun os started H enc _ F => by rw [OpenClaim.pre_eq_preRow]; exact digestBack_lifted os started H enc F)
theorem digestBack_card : Rows.DigestBackUptoCardSaid :=
  Claim7.holds_tied_plain_at .later [] _ _ _ _ digestBack_said (fun _ h => by cases h) (by kernel_rfl) (fun _ h => by cases h) digestBackUpto_row_tie rfl ⟨rfl, rfl⟩ (by kernel_rfl) rfl
    (no_standIn (f := 3) (fn := Tryd.f3) (by kernel_rfl) Tryd.func3 (by kernel_rfl) (by kernel_rfl)) (by kernel_rfl)
#print axioms digestBack_card
end Go.Proofs.YtgjelinnpcekmaaDoor
