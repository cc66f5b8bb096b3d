/-
  PROVED: stratalaw15.ExpandPlain returns true and leaves its arguments as they were: a text without what is looked at is itself; with more than may be it is refused. Conditions: the row's own (the listed package variables hold what the program's text lays; the card ties that); none beyond.
-/
import Derived.Test.YtnmnhnhlggbijaaDoorExPl
import Derived.Test.YtnmnhnhlggbijaaDoorRowH
import Derived.Test.YtnmnhnhlggbijaaDoorOpw
namespace Go.Proofs.YtnmnhnhlggbijaaDoor
open Go.ChangeShapes Go.WideShapes Go.ChangeAt Go.RowKit Err Exp

theorem expandPlain_readable : ∀ t ∈ Tryd.f5.params.toList, Tryd.prog.readableRec t = true ∧ t < Tryd.prog.types.size := by
  intro t ht
  rw [Tryd.params5] at ht
  simp only [List.mem_cons, List.not_mem_nil, or_false] at ht
  rcases ht with rfl | rfl | rfl
  all_goals exact ⟨by kernel_rfl, of_decide_eq_true (by kernel_rfl)⟩
noncomputable def expandPlain_world (os : Os) : World := laidWorld Rows.expandPlainRow.laid os
theorem expandPlain_met (os : Os) : laidMetH Tryd.prog Rows.expandPlainRow.laid ((expandPlain_world os).forCall (fun _ _ => 0) ⟨#[], #[Value.string .empty, .int .u8 0, .slice none 0 0], []⟩).memory :=
  laidMetH_of_parts (laidMet_nil _ _) (by kernel_rfl)
theorem expandPlain_reads (os : Os) {H : Type} (enc : TypeId × Value → H) : ∃ places, DataW.whole enc Tryd.prog ((expandPlain_world os).forCall (fun _ _ => 0) ⟨#[], #[Value.string .empty, .int .u8 0, .slice none 0 0], []⟩).memory Tryd.f5.params.toList Rows.expandPlainSpec.vars false #[Value.string .empty, .int .u8 0, .slice none 0 0].toList 8 = some ([.lit (.string []), .lit (.int .u8 0), .nil], [], places) :=
  ⟨[], by kernel_rfl⟩

set_option maxRecDepth 100000 in
theorem expandPlain_lifted (os : Os) (started : os.Started) (H : Type) (enc : TypeId × Value → H) (F : Stop.Interp) :
    ReturnsInHanded {} Tryd.checked os 5 .any ((OpenSpec.ofChange Rows.expandPlainSpec).preRow enc Tryd.prog Tryd.f5 Rows.expandPlainRow.domain false Rows.expandPlainRow.laid) (((OpenSpec.ofChange Rows.expandPlainSpec).at F).post enc Tryd.prog Tryd.f5 false true false false) := by
  obtain ⟨places, hx⟩ := expandPlain_reads os enc
  refine returnsInHanded_of_row (C := Tryd.checked) (s := OpenSpec.ofChange Rows.expandPlainSpec) own started (by kernel_rfl) Tryd.func5
    (witness_row_at (enc := enc) (C := Tryd.checked) false (expandPlain_world os) #[Value.string .empty, .int .u8 0, .slice none 0 0] rfl (by kernel_rfl) (by kernel_rfl) (by kernel_rfl)
      (OpenSpec.preRow_of_cond 8 hx (by kernel_rfl) (fun k hk => by cases hk) (by kernel_rfl) (expandPlain_met os))) ?_
  intro W base args ds gs before hval0 hW _ _ hsz hL _ _
  have hval : ∀ (j : Nat) t v, Tryd.f5.params[j]? = some t → args[j]? = some v → Value.okWide Tryd.prog W .any base t v := hval0
  have hW' := hW
  obtain ⟨p, q, hA0, hV, rfl, hfz, hnd⟩ := hW
  have hA : DataW.TrodAll enc Tryd.prog W 0 (fun _ => true) true Tryd.f5.params.toList args.toList ds p := hA0
  rw [Tryd.params5] at hA hval
  obtain ⟨v0, vs0, d0, ds0, p0, q0, hargs, rfl, rfl, h0, r0⟩ := trodAll_cons hA
  obtain ⟨v1, vs1, d1, ds1, p1, q1, rfl, rfl, rfl, h1, r1⟩ := trodAll_cons r0
  obtain ⟨v2, vs2, d2, ds2, p2, q2, rfl, rfl, rfl, h2, r2⟩ := trodAll_cons r1
  obtain ⟨rfl, rfl, rfl⟩ := trodAll_nil r2
  obtain rfl : args = #[v0, v1, v2] := by cases args; simp_all
  obtain ⟨s0, rfl, b0⟩ := open_text Tryd.underlying9 (hval 0 9 v0 rfl rfl) h0
  obtain ⟨c1, rfl⟩ := open_u8 Tryd.underlying5 (hval 1 5 v1 rfl rfl) h1
  obtain ⟨A2, n2, k2, l2, rfl, hr2, m2⟩ := open_pairs (hval 2 22 v2 rfl rfl) h2
  have hm2 := m2 140737488355328 (fun x hx => Nat.le_trans (of_decide_eq_true (List.all_eq_true.1 hsz x (DataW.weights_mem_each (j := 2) (t := 22) (by kernel_rfl) rfl x hx))) (by decide))
  refine (expandPlain_any s0 c1 A2 n2 k2 l2 W hr2 hm2 (errTab_row hL (List.mem_of_getElem? (i := 0) (by rfl)))).mono fun e W' ⟨he, hw⟩ => ?_
  subst he
  exact ⟨_, rfl, law_post (tb := 4) hW' rfl (by kernel_rfl) Tryd.underlying4 laidOut expandPlain_readable (fun hg => by subst hg; rfl) hw⟩

theorem expandPlain_said : Rows.ExpandPlainSaid :=
  OpenClaim.holds_of_cond 5 Tryd.f5 rfl rfl rfl rfl rfl rfl rfl ⟨rfl, rfl, rfl, rfl, rfl⟩ rfl rfl rfl rfl rfl (by kernel_rfl) Tryd.func5 (by kernel_rfl)
    (of_decide_eq_true (by kernel_rfl)) (by unfold Func.isWrapper; first | (rw [if_pos (by decide +kernel)]; kernel_rfl) | (rw [if_neg (by decide +kernel)]; exact ⟨rfl, rfl⟩))
    (fun os started H enc _ F => by rw [OpenClaim.pre_eq_preRow]; exact expandPlain_lifted os started H enc F)
theorem expandPlain_card : Rows.ExpandPlainCardSaid :=
  Claim7.holds_tied_plain_at .later [] _ _ _ _ expandPlain_said (fun _ h => by cases h) (by kernel_rfl) (fun _ h => by cases h) expandPlain_row_tie rfl ⟨rfl, rfl⟩ (by kernel_rfl) rfl
    (no_standIn (f := 5) (fn := Tryd.f5) (by kernel_rfl) Tryd.func5 (by kernel_rfl) (by kernel_rfl)) (by kernel_rfl)
#print axioms expandPlain_card
end Go.Proofs.YtnmnhnhlggbijaaDoor
