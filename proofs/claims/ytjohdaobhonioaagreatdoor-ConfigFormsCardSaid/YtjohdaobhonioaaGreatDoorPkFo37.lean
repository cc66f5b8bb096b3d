/-
  Parts of the proof: CfQt.
-/
import Derived.Test.YtjohdaobhonioaaGreatDoorPkFo8
namespace Go.Proofs.YtjohdaobhonioaaGreatDoor
namespace Js.Cf
section
variable {P : Program} {ops : Array Oper} {Q : Exit -> Act -> World -> Prop} {md : Region.Mode} {S : World -> Prop} {z : Nat}
def waitsB (md : Region.Mode) (ops : Array Oper) (j k : Nat) : Bool := match ops[j]? with | some o => o.after.any (fun e => Region.binds md e && e.on == k) | none => false
def chainB (md : Region.Mode) (ops : Array Oper) (z : Nat) : Bool :=
 (List.range ops.size).all fun k => k == z || (List.range ops.size).any fun j => decide (k < j) && waitsB md ops j k
def closedB (md : Region.Mode) (ops : Array Oper) (listed : Array Bool) : Bool :=
 (List.range ops.size).all fun j => !(listed.getD j false) || (List.range ops.size).all fun k => !(waitsB md ops j k) || listed.getD k false
theorem getD_both {listed : Array Bool} {k : Nat} (h : listed.getD k false = true) (h' : listed.getD k true = false) : False := by
 rcases Nat.lt_or_ge k listed.size with h1 | h1
 . simp [h1] at h h'; rw [h] at h'; cases h'
 . simp [Array.getElem?_eq_none h1] at h
theorem ready_waits {listed : Array Bool} {j k : Nat} (hj : j ∈ Region.ready md ops listed) (hw : waitsB md ops j k = true) : listed.getD k false = true := by
 obtain ⟨_, o, ho, hall⟩ := mem_ready.1 hj
 unfold waitsB at hw
 rw [ho] at hw
 obtain ⟨e, he, hb⟩ := Array.any_eq_true'.1 hw
 simp only [Bool.and_eq_true, beq_iff_eq] at hb
 have := hall e he hb.1
 rwa [hb.2] at this
theorem closed_waits {listed : Array Bool} (hc : closedB md ops listed = true) {j k : Nat} (hj : j < ops.size) (hk : k < ops.size) (hl : listed.getD j false = true) (hw : waitsB md ops j k = true) : listed.getD k false = true := by
 have h1 := List.all_eq_true.1 hc j (List.mem_range.2 hj)
 rw [hl] at h1
 simp only [Bool.not_true, Bool.false_or] at h1
 have h2 := List.all_eq_true.1 h1 k (List.mem_range.2 hk)
 rw [hw] at h2
 simpa using h2
theorem closed_set {listed : Array Bool} (hc : closedB md ops listed = true) {i : Nat} (hi : i ∈ Region.ready md ops listed) : closedB md ops (listed.setIfInBounds i true) = true := by
 refine List.all_eq_true.2 fun j hj => ?_
 cases hl : (listed.setIfInBounds i true).getD j false with
 | false => rfl
 | true =>
  simp only [Bool.not_true, Bool.false_or]
  refine List.all_eq_true.2 fun k hk => ?_
  cases hw : waitsB md ops j k with
  | false => rfl
  | true =>
   simp only [Bool.not_true, Bool.false_or]
   refine getD_set_true ?_
   by_cases hij : i = j
   . subst hij; exact ready_waits hi hw
   . rw [getD_set_ne false hij] at hl
     exact closed_waits hc (List.mem_range.1 hj) (List.mem_range.1 hk) hl hw
theorem chain_waits (h : chainB md ops z = true) {listed : Array Bool} (hc : closedB md ops listed = true) (hz : z ∈ Region.ready md ops listed) {k : Nat} (hk : k ∈ Region.ready md ops listed) : k = z := by
 have all : ∀ (n k : Nat), k < ops.size -> ops.size - k ≤ n -> k ≠ z -> listed.getD k false = true := by
   intro n
   induction n with
   | zero => intro k h1 h2; omega
   | succ n ih =>
    intro k h1 h2 h3
    have h4 := List.all_eq_true.1 h k (List.mem_range.2 h1)
    rw [show (k == z) = false by simpa using h3, Bool.false_or] at h4
    obtain ⟨j, hj, h5⟩ := List.any_eq_true.1 h4
    simp only [Bool.and_eq_true, decide_eq_true_eq] at h5
    have hj := List.mem_range.1 hj
    by_cases hjz : j = z
    . subst hjz; exact ready_waits hz h5.2
    . exact closed_waits hc hj h1 (ih j hj (by omega) hjz) h5.2
 by_cases hkz : k = z
 . exact hkz
 . obtain ⟨hun, ok, hok, _⟩ := mem_ready.1 hk
   exact (getD_both (all _ k (Array.getElem?_eq_some_iff.1 hok).1 (Nat.le_refl _) hkz) hun).elim
theorem wpAnyC_first {i : Nat} {oi : Oper} {v : Value} (hz : chainB md ops z = true) (hi : ops[i]? = some oi) (hsel : ∀ (j : Nat) (o : Oper) cs b, ops[j]? = some o -> o.op ≠ .select cs b)
  (hQ : ∀ c a w, Q (.panic c) (a.put oi.dst v) w -> Q (.panic c) a w) :
  ∀ (fuel : Nat) (listed : Array Bool) (a : Act) (w : World), closedB md ops listed = true ->
    (∀ j oj, ops[j]? = some oj -> j ≠ i -> listed.getD j true = false -> (∀ e ∈ oj.after, Region.binds md e = true -> e.on ≠ i) -> oi.apart ops oj = true) ->
    i ∈ Region.ready md ops listed -> YieldsIf P ops S oi v a -> S w ->
    wpAnyR P md ops Q S z fuel (listed.setIfInBounds i true) (a.put oi.dst v) w -> wpAnyR P md ops Q S z (fuel + 1) listed a w := by
 intro fuel
 induction fuel with
 | zero =>
  intro listed a w _ _ hr hy hS H
  refine ⟨fun h => (by rw [h] at hr; cases hr), fun j hj => ?_⟩
  by_cases hji : j = i
  . subst hji; exact hy.wpOp hi hS ⟨fun _ => hS, H⟩
  . have := ready_mono hj hji
    rw [H.1] at this
    cases this
 | succ fuel ih =>
  intro listed a w hcl hfree hr hy hS H
  refine ⟨fun h => (by rw [h] at hr; cases hr), fun j hj => ?_⟩
  by_cases hji : j = i
  . subst hji; exact hy.wpOp hi hS ⟨fun _ => hS, H⟩
  . have hjz : j ≠ z := fun e => by subst e; exact hji (chain_waits hz hcl hj hr).symm
    have h1 := H.2 j (ready_mono hj hji)
    obtain ⟨hjun, oj, hoj, hall⟩ := mem_ready.1 hj
    have hnot : ∀ e ∈ oj.after, Region.binds md e = true -> e.on ≠ i := fun e he hb heq => by
     have h1 := hall e he hb
     have h0 := (mem_ready.1 hr).1
     rw [heq] at h1
     exact getD_both h1 h0
    have h2 := wpOp_putIf hoj (hfree j oj hoj hji hjun hnot) (fun cs b => hsel i oi cs b hi) (fun cs b => hsel j oj cs b hoj) hQ hy h1
    have hfree' : ∀ k ok, ops[k]? = some ok -> k ≠ i -> (listed.setIfInBounds j true).getD k true = false ->
       (∀ e ∈ ok.after, Region.binds md e = true -> e.on ≠ i) -> oi.apart ops ok = true := fun k ok hk hki hun hno => by
     refine hfree k ok hk hki ?_ hno
     by_cases hjk : j = k
     . subst hjk; exact hjun
     . rw [getD_set_ne true hjk] at hun; exact hun
    refine wpOp_mono (fun a' w' h3 => ⟨h3.2.1, ih (listed.setIfInBounds j true) a' w' (closed_set hcl hj) hfree' (ready_mono hr (Ne.symm hji)) h3.1 (h3.2.1 hjz) ?_⟩) h2
    rw [Array.setIfInBounds_comm _ _ hji]
    exact h3.2.2
theorem tkC (i : Nat) {oi : Oper} {v : Value} {fuel : Nat} {listed : Array Bool} {a : Act} {w : World} (hi : ops[i]? = some oi := by simp only [List.getElem?_toArray, List.getElem?_cons_succ, List.getElem?_cons_zero]; rfl) (hz : chainB md ops z = true := by kernel_rfl) (hcl : closedB md ops listed = true := by kernel_rfl) (hs : Region.noSelect ops = true := by kernel_rfl)
  (hf : Region.free md ops listed i = true := by kernel_rfl) (hr : (Region.ready md ops listed).contains i = true := by kernel_rfl) (hQ : ∀ c a w, Q (.panic c) (a.put oi.dst v) w -> Q (.panic c) a w := by exact fun _ _ _ h => h)
  (hy : YieldsIf P ops S oi v a := by exact Or.inl ⟨by rfl, by intro w hSw; (try dsimp only at hSw); go_simp <;> with_reducible rfl⟩) (hS : S w)
  (h : wpAnyR P md ops Q S z fuel (listed.setIfInBounds i true) (a.put oi.dst v) w) : wpAnyR P md ops Q S z (fuel + 1) listed a w :=
 wpAnyC_first hz hi (Region.noSelect_spec hs) hQ fuel listed a w hcl (Region.free_spec hi hf) (by simpa using hr) hy hS h
end
end Js.Cf
end Go.Proofs.YtjohdaobhonioaaGreatDoor
