/-
  PROVED: stratalaw15.ExpandQuoted returns true for every input and leaves its arguments as they were: what layer 13 puts into quotes comes out as it was, whatever the variables. Conditions: none beyond the row's own.
-/
import Derived.Test.YtnmnhnhlggbijaaExQ
import Derived.Test.YtnmnhnhlggbijaaRowP
import Derived.Test.YtnmnhnhlggbijaaOpw
namespace Go.Proofs.Ytnmnhnhlggbijaa
open Go.ChangeShapes Go.WideShapes Go.ChangeAt Go.RowKit Exp

theorem expandQuoted_readable : ∀ t ∈ Try.f5.params.toList, Try.prog.readableRec t = true ∧ t < Try.prog.types.size := by
  intro t ht
  rw [Try.params5] at ht
  simp only [List.mem_cons, List.not_mem_nil, or_false] at ht
  rcases ht with rfl | rfl | rfl
  all_goals exact ⟨by kernel_rfl, of_decide_eq_true (by kernel_rfl)⟩

set_option maxRecDepth 100000 in
theorem expandQuoted_lifted (os : Os) (started : os.Started) (H : Type) (enc : TypeId × Value → H) :
    ReturnsInHanded {} Try.checked os 5 .any (Rows.expandQuotedSpec.pre6 enc Try.prog Try.f5 Rows.expandQuotedRow.domain false) (Rows.expandQuotedSpec.post enc Try.prog Try.f5 false true false false) := by
  refine returnsInHanded_of_change_sized (C := Try.checked) own started (by kernel_rfl) Try.func5
    (ChangeSpec.witness6 (enc := enc) (C := Try.checked) false ⟨#[], #[Value.string .empty, .bool false, .slice none 0 0], []⟩ 8 (by kernel_rfl) (by kernel_rfl) (by kernel_rfl) (by kernel_rfl)) ?_
  intro W base args ds gs before hval0 hW _ hsz _
  have hval : ∀ (j : Nat) t v, Try.f5.params[j]? = some t → args[j]? = some v → Value.okWide Try.prog W .any base t v := hval0
  have hW' := hW
  obtain ⟨p, q, hA0, hV, rfl, hfz, hnd⟩ := hW
  have hA : DataW.TrodAll enc Try.prog W 0 (fun _ => true) true Try.f5.params.toList args.toList ds p := hA0
  rw [Try.params5] at hA hval
  obtain ⟨v0, vs0, d0, ds0, p0, q0, hargs, rfl, rfl, h0, r0⟩ := trodAll_cons hA
  obtain ⟨v1, vs1, d1, ds1, p1, q1, rfl, rfl, rfl, h1, r1⟩ := trodAll_cons r0
  obtain ⟨v2, vs2, d2, ds2, p2, q2, rfl, rfl, rfl, h2, r2⟩ := trodAll_cons r1
  obtain ⟨rfl, rfl, rfl⟩ := trodAll_nil r2
  obtain rfl : args = #[v0, v1, v2] := by cases args; simp_all
  obtain ⟨s0, rfl, _⟩ := open_text Try.underlying9 (hval 0 9 v0 rfl rfl) h0
  obtain ⟨z1, rfl, _, _⟩ := open_bool Try.underlying4 (hval 1 4 v1 rfl rfl) h1
  obtain ⟨A2, n2, k2, l2, rfl, hr2, m2⟩ := open_pairs (hval 2 29 v2 rfl rfl) h2
  have hm2 := m2 140737488355328 (fun x hx => Nat.le_trans (of_decide_eq_true (List.all_eq_true.1 hsz x (DataW.weights_mem_each (j := 2) (t := 29) (by kernel_rfl) rfl x hx))) (by decide))
  refine (expandQuoted_any s0 z1 A2 n2 k2 l2 W hr2 hm2).mono fun e W' ⟨he, hw⟩ => ?_
  subst he
  exact ⟨_, rfl, law_post (tb := 4) hW' rfl (by kernel_rfl) Try.underlying4 laidOut expandQuoted_readable (fun hg => by subst hg; rfl) hw⟩

theorem expandQuoted_holds : Rows.ExpandQuotedSaid :=
  OpenClaim.holds_of_wide 5 Try.f5 rfl rfl rfl rfl rfl rfl rfl ⟨rfl, rfl, rfl, rfl, rfl⟩ rfl rfl rfl rfl rfl (by kernel_rfl) Try.func5 (by kernel_rfl)
    (of_decide_eq_true (by kernel_rfl)) (by unfold Func.isWrapper; first | (rw [if_pos (by decide +kernel)]; kernel_rfl) | (rw [if_neg (by decide +kernel)]; exact ⟨rfl, rfl⟩))
    (fun os started H enc _ => expandQuoted_lifted os started H enc)
#print axioms expandQuoted_holds
end Go.Proofs.Ytnmnhnhlggbijaa
