/-
  PROVED: stratalaw15.ExpandHangs returns true for every input and leaves its arguments as they were: what a word tells hangs on the values of its names alone. Conditions: none beyond the row's own.
-/
import Derived.Test.YtnmnhnhlggbijaaExH
import Derived.Test.YtnmnhnhlggbijaaRowP
import Derived.Test.YtnmnhnhlggbijaaOpw
namespace Go.Proofs.Ytnmnhnhlggbijaa
open Go.ChangeShapes Go.WideShapes Go.ChangeAt Go.RowKit Exp

theorem expandHangs_readable : ∀ t ∈ Try.f6.params.toList, Try.prog.readableRec t = true ∧ t < Try.prog.types.size := by
  intro t ht
  rw [Try.params6] at ht
  simp only [List.mem_cons, List.not_mem_nil, or_false] at ht
  rcases ht with rfl | rfl | rfl | rfl
  all_goals exact ⟨by kernel_rfl, of_decide_eq_true (by kernel_rfl)⟩

set_option maxRecDepth 100000 in
theorem expandHangs_lifted (os : Os) (started : os.Started) (H : Type) (enc : TypeId × Value → H) :
    ReturnsInHanded {} Try.checked os 6 .any (Rows.expandHangsSpec.pre6 enc Try.prog Try.f6 Rows.expandHangsRow.domain false) (Rows.expandHangsSpec.post enc Try.prog Try.f6 false true false false) := by
  refine returnsInHanded_of_change_sized (C := Try.checked) own started (by kernel_rfl) Try.func6
    (ChangeSpec.witness6 (enc := enc) (C := Try.checked) false ⟨#[], #[Value.string .empty, .int .u8 0, .slice none 0 0, .slice none 0 0], []⟩ 8 (by kernel_rfl) (by kernel_rfl) (by kernel_rfl) (by kernel_rfl)) ?_
  intro W base args ds gs before hval0 hW _ hsz _
  have hval : ∀ (j : Nat) t v, Try.f6.params[j]? = some t → args[j]? = some v → Value.okWide Try.prog W .any base t v := hval0
  have hW' := hW
  obtain ⟨p, q, hA0, hV, rfl, hfz, hnd⟩ := hW
  have hA : DataW.TrodAll enc Try.prog W 0 (fun _ => true) true Try.f6.params.toList args.toList ds p := hA0
  rw [Try.params6] at hA hval
  obtain ⟨v0, vs0, d0, ds0, p0, q0, hargs, rfl, rfl, h0, r0⟩ := trodAll_cons hA
  obtain ⟨v1, vs1, d1, ds1, p1, q1, rfl, rfl, rfl, h1, r1⟩ := trodAll_cons r0
  obtain ⟨v2, vs2, d2, ds2, p2, q2, rfl, rfl, rfl, h2, r2⟩ := trodAll_cons r1
  obtain ⟨v3, vs3, d3, ds3, p3, q3, rfl, rfl, rfl, h3, r3⟩ := trodAll_cons r2
  obtain ⟨rfl, rfl, rfl⟩ := trodAll_nil r3
  obtain rfl : args = #[v0, v1, v2, v3] := by cases args; simp_all
  obtain ⟨s0, rfl, _⟩ := open_text Try.underlying9 (hval 0 9 v0 rfl rfl) h0
  obtain ⟨c1, rfl⟩ := open_u8 Try.underlying5 (hval 1 5 v1 rfl rfl) h1
  obtain ⟨A2, n2, k2, l2, rfl, hr2, m2⟩ := open_pairs (hval 2 29 v2 rfl rfl) h2
  obtain ⟨A3, n3, k3, l3, rfl, hr3, m3⟩ := open_pairs (hval 3 29 v3 rfl rfl) h3
  have hm2 := m2 140737488355328 (fun x hx => Nat.le_trans (of_decide_eq_true (List.all_eq_true.1 hsz x (DataW.weights_mem_each (j := 2) (t := 29) (by kernel_rfl) rfl x hx))) (by decide))
  have hm3 := m3 140737488355328 (fun x hx => Nat.le_trans (of_decide_eq_true (List.all_eq_true.1 hsz x (DataW.weights_mem_each (j := 3) (t := 29) (by kernel_rfl) rfl x hx))) (by decide))
  refine (expandHangs_any s0 c1 A2 A3 n2 k2 n3 k3 l2 l3 W hr2 hm2 hr3 hm3).mono fun e W' ⟨he, hw⟩ => ?_
  subst he
  exact ⟨_, rfl, law_post (tb := 4) hW' rfl (by kernel_rfl) Try.underlying4 laidOut expandHangs_readable (fun hg => by subst hg; rfl) hw⟩

theorem expandHangs_holds : Rows.ExpandHangsSaid :=
  OpenClaim.holds_of_wide 6 Try.f6 rfl rfl rfl rfl rfl rfl rfl ⟨rfl, rfl, rfl, rfl, rfl⟩ rfl rfl rfl rfl rfl (by kernel_rfl) Try.func6 (by kernel_rfl)
    (of_decide_eq_true (by kernel_rfl)) (by unfold Func.isWrapper; first | (rw [if_pos (by decide +kernel)]; kernel_rfl) | (rw [if_neg (by decide +kernel)]; exact ⟨rfl, rfl⟩))
    (fun os started H enc _ => expandHangs_lifted os started H enc)
#print axioms expandHangs_holds
end Go.Proofs.Ytnmnhnhlggbijaa
