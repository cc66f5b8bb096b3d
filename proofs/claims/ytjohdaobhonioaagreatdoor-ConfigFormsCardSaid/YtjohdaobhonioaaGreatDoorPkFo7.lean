/-
  Parts of the proof: ConfigFormsF, Prs, QLast.
-/
import Derived.Test.YtjohdaobhonioaaGreatDoorPkFo6
import Derived.Test.YtjohdaobhonioaaGreatDoorPkFo1
import Derived.Deep.RegionHeld3
namespace Go.Proofs.YtjohdaobhonioaaGreatDoor
open Go.ChangeShapes Go.WideShapes Go.ChangeAt Go.RowKit
theorem configForms_and {a b : Bool} (h1 : a = true) (h2 : b = true) : (a && b) = true := by rw [h1, h2]; rfl
theorem configForms_c0 : (Rows.configFormsRow.wf (OpenSpec.ofChange Rows.configFormsSpec)) = true := by kernel_rfl
theorem configForms_c1 : (laidOutB Tryz.prog) = true := by kernel_rfl
theorem configForms_c2 : (mapsRowed Tryz.prog) = true := by kernel_rfl
theorem configForms_c3 : (Tryz.f5.params.all (Tryz.prog.readableRec ·)) = true := by kernel_rfl
theorem configForms_c4 : (namedTie Tryz.prog Rows.configFormsRow.named Rows.configFormsSpec.vars) = true := by kernel_rfl
theorem configForms_c5 : (Rows.configFormsRow.stops == []) = true := by kernel_rfl
theorem configForms_c6 : (Tryz.prog.stops == []) = true := by kernel_rfl
theorem configForms_c7 : (Rows.configFormsRow.knobs == []) = true := by kernel_rfl
theorem configForms_c8 : (Tryz.prog.stopKnobs == []) = true := by kernel_rfl
theorem configForms_c9 : (Rows.configFormsRow.inPlace == Tryz.prog.inPlace 5) = true := by kernel_rfl
theorem configForms_c10 : (Rows.configFormsRow.unfollowed == Tryz.prog.unfollowed 5) = true := by kernel_rfl
theorem configForms_c11 : (Rows.configFormsRow.recurses == Tryz.prog.recurses 5) = true := by kernel_rfl
theorem configForms_c12 : (Rows.configFormsRow.named == Tryz.prog.varsNamed 5) = true := by kernel_rfl
theorem configForms_c13 : (Rows.configFormsRow.maps == (Tryz.f5.params.toList ++ Rows.configFormsSpec.plain.varTypes Tryz.prog).any (Tryz.prog.mapsRec ·)) = true := by kernel_rfl
theorem configForms_c14 : (Rows.configFormsRow.ifaces == (Tryz.f5.params.toList ++ Rows.configFormsSpec.plain.varTypes Tryz.prog).any (Tryz.prog.ifacesRec ·)) = true := by kernel_rfl
theorem configForms_c15 : (Rows.configFormsRow.mapsOut == Tryz.prog.mapsAmong Tryz.f5.resultTypes.toList) = true := by kernel_rfl
theorem configForms_c16 : (Rows.configFormsRow.loops == (Tryz.f5.params.toList ++ Rows.configFormsSpec.plain.varTypes Tryz.prog).any (Tryz.prog.loopsFrom ·)) = true := by kernel_rfl
theorem configForms_c17 : (Rows.configFormsRow.wideKeys == (Tryz.f5.params.toList ++ Rows.configFormsSpec.plain.varTypes Tryz.prog ++ Tryz.f5.resultTypes.toList).any (Tryz.prog.wideKeysFrom ·)) = true := by kernel_rfl
theorem configForms_c18 : (Rows.configFormsSpec.vars.all (Tryz.prog.varReadable ·)) = true := by kernel_rfl
theorem configForms_c19 : (Tryz.f5.resultTypes.all (fun t => Tryz.prog.readableRec t && decide (t < Tryz.prog.types.size))) = true := by kernel_rfl
theorem configForms_c20 : (Rows.configFormsRow.ifacesOut == Tryz.f5.resultTypes.toList.any (Tryz.prog.ifacesRec ·)) = true := by kernel_rfl
theorem configForms_c21 : (Rows.configFormsRow.loopsOut == Tryz.f5.resultTypes.toList.any (Tryz.prog.loopsFrom ·)) = true := by kernel_rfl
theorem configForms_c22 : (Rows.configFormsRow.plainKeys == Tryz.prog.plainKeys) = true := by kernel_rfl
theorem configForms_c23 : (Rows.configFormsRow.shortTexts.isNone) = true := by kernel_rfl
theorem configForms_c24 : (Tryz.prog.stopsHeard) = true := by kernel_rfl
theorem configForms_c25 : (Tryz.prog.mayEnter) = true := by kernel_rfl
theorem configForms_c26 : (Rows.configFormsRow.lifted == Tryz.prog.liftsFinal) = true := by kernel_rfl
theorem configForms_c27 : (Tryz.prog.make == some Rows.configFormsRow.make) = true := by kernel_rfl
theorem configForms_c28 : (Rows.configFormsRow.kinds == (if Rows.configFormsRow.domain.isEmpty then [] else Tryz.f5.params.toList.map fun t => match Tryz.prog.underlying t with | some (.int k) => some k | _ => none)) = true := by kernel_rfl
theorem configForms_c29 : (Rows.configFormsRow.pinned == Rows.configFormsRow.pinnedBy) = true := by kernel_rfl
theorem configForms_c30 : (Rows.configFormsRow.veiled == (Tryz.f5.params.toList ++ Rows.configFormsSpec.plain.varTypes Tryz.prog ++ Tryz.f5.resultTypes.toList).any (Tryz.prog.veiledRec ·)) = true := by kernel_rfl
theorem configForms_c31 : (Rows.configFormsRow.veiledFits Tryz.prog Tryz.f5.params.toList (Tryz.f5.params.toList ++ Rows.configFormsSpec.plain.varTypes Tryz.prog ++ Tryz.f5.resultTypes.toList)) = true := by kernel_rfl
set_option maxRecDepth 100000 in
theorem configForms_closed : joinedFacts Tryz.prog 5 Tryz.f5 Rows.configFormsSpec Rows.configFormsRow = true := by
 unfold joinedFacts
 exact configForms_and (configForms_and (configForms_and (configForms_and (configForms_and (configForms_and (configForms_and (configForms_and (configForms_and (configForms_and (configForms_and (configForms_and (configForms_and (configForms_and (configForms_and (configForms_and (configForms_and (configForms_and (configForms_and (configForms_and (configForms_and (configForms_and (configForms_and (configForms_and (configForms_and (configForms_and (configForms_and (configForms_and (configForms_and (configForms_and (configForms_and (configForms_c0) configForms_c1) configForms_c2) configForms_c3) configForms_c4) configForms_c5) configForms_c6) configForms_c7) configForms_c8) configForms_c9) configForms_c10) configForms_c11) configForms_c12) configForms_c13) configForms_c14) configForms_c15) configForms_c16) configForms_c17) configForms_c18) configForms_c19) configForms_c20) configForms_c21) configForms_c22) configForms_c23) configForms_c24) configForms_c25) configForms_c26) configForms_c27) configForms_c28) configForms_c29) configForms_c30) configForms_c31
end Go.Proofs.YtjohdaobhonioaaGreatDoor
namespace Go.Proofs.YtjohdaobhonioaaGreatDoor
open Go.RowKit
def px (l : List (List UInt8 × List UInt8)) : List Value := l.flatMap fun p => [.string ⟨p.1.toArray⟩, .string ⟨p.2.toArray⟩]
theorem px_append (l m : List (List UInt8 × List UInt8)) : px (l ++ m) = px l ++ px m := by simp [px]
theorem px_get {l : List (List UInt8 × List UInt8)} {k : Nat} (h : k < l.length) : (px l)[k * 2]? = some (.string ⟨(l.getD k ([], [])).1.toArray⟩) /\ (px l)[k * 2 + 1]? = some (.string ⟨(l.getD k ([], [])).2.toArray⟩) := by
 induction l generalizing k with
 | nil => simp at h
 | cons x l ih =>
  have e : px (x :: l) = .string ⟨x.1.toArray⟩ :: .string ⟨x.2.toArray⟩ :: px l := by simp [px]
  rw [e]
  cases k with
  | zero => simp
  | succ k =>
   have := ih (by simpa using h : k < l.length)
   rw [show (k + 1) * 2 = k * 2 + 2 by omega]
   simpa using this
theorem px_length (l : List (List UInt8 × List UInt8)) : (px l).length = l.length * 2 := by
 induction l with
 | nil => rfl
 | cons x l ih =>
  have e : px (x :: l) = .string ⟨x.1.toArray⟩ :: .string ⟨x.2.toArray⟩ :: px l := by simp [px]
  rw [e, List.length_cons, List.length_cons, ih, List.length_cons]; omega
theorem at_pair {w : World} {B n : Nat} {A : Option Addr} {l : List (List UInt8 × List UInt8)} (h : Reads w B 2 A n (px l)) {k : Nat} (hk : k < n) :
  ∃ ad, A = some ad /\ ad.block < B /\ w.cell? (ad.add (k * 2)) = some (.string ⟨(l.getD k ([], [])).1.toArray⟩) /\ w.cell? ⟨(ad.add (k * 2)).block, (ad.add (k * 2)).off + 1, none⟩ = some (.string ⟨(l.getD k ([], [])).2.toArray⟩) := by
 obtain ⟨ad, hA, hb, hc⟩ := h.2 (by omega)
 have hl : l.length = n := by have := h.1; rw [px_length] at this; omega
 obtain ⟨g1, g2⟩ := px_get (l := l) (k := k) (by omega)
 have e := hc _ _ g2
 rw [<- add_of_add] at e
 exact ⟨ad, hA, hb, hc _ _ g1, by rw [<- e]; unfold Addr.add; simp⟩
def PxLe (n : Nat) (l : List (List UInt8 × List UInt8)) : Prop := ∀ p ∈ l, p.1.length ≤ n /\ p.2.length ≤ n
end Go.Proofs.YtjohdaobhonioaaGreatDoor
namespace Go.Proofs.YtjohdaobhonioaaGreatDoor
section
variable {P : Program} {ops : Array Oper} {Q : Exit -> Act -> World -> Prop} {md : Region.Mode} {S : World -> Prop} {z : Nat}
def lastB (md : Region.Mode) (ops : Array Oper) (z : Nat) : Bool :=
 (List.range ops.size).all fun k => k == z || (match ops[z]? with | some o => o.after.any (fun e => Region.binds md e && e.on == k) | none => false)
theorem last_waits (h : lastB md ops z = true) {listed : Array Bool} (hz : z ∈ Region.ready md ops listed) {k : Nat} (hk : k ∈ Region.ready md ops listed) : k = z := by
 obtain ⟨_, o, ho, hall⟩ := mem_ready.1 hz
 obtain ⟨hun, ok, hok, _⟩ := mem_ready.1 hk
 have hlt : k < ops.size := (Array.getElem?_eq_some_iff.1 hok).1
 have h1 := List.all_eq_true.1 h k (List.mem_range.2 hlt)
 simp only [ho, Bool.or_eq_true, beq_iff_eq] at h1
 rcases h1 with h1 | h1
 . exact h1
 . obtain ⟨e, he, hb⟩ := Array.any_eq_true'.1 h1
   simp only [Bool.and_eq_true, beq_iff_eq] at hb
   have h2 := hall e he hb.1
   rw [hb.2] at h2
   rcases Nat.lt_or_ge k listed.size with h' | h'
   . simp [h'] at h2 hun; rw [hun] at h2; cases h2
   . simp [Array.getElem?_eq_none h'] at h2
def wpAnyR (P : Program) (md : Region.Mode) (ops : Array Oper) (Q : Exit -> Act -> World -> Prop) (S : World -> Prop) (z : Nat) : Nat -> Array Bool -> Act -> World -> Prop
 | 0, listed, a, w => Region.ready md ops listed = [] /\ Q .normal a w
 | fuel + 1, listed, a, w =>
  (Region.ready md ops listed = [] -> Q .normal a w) /\
  ∀ i ∈ Region.ready md ops listed, wpOp P ops Q i (fun a' w' => (i ≠ z -> S w') /\ wpAnyR P md ops Q S z fuel (listed.setIfInBounds i true) a' w') a w
theorem wpAny_of_R : ∀ (fuel : Nat) (listed : Array Bool) (a : Act) (w : World), wpAnyR P md ops Q S z fuel listed a w -> wpAny P md ops Q fuel listed a w
 | 0, _, _, _, h => h
 | fuel + 1, _, _, _, h => ⟨h.1, fun i hi => wpOp_mono (fun a' w' h' => wpAny_of_R fuel _ a' w' h'.2) (h.2 i hi)⟩
theorem wpAnyR_first {i : Nat} {oi : Oper} {v : Value} (hz : lastB md ops z = true) (hi : ops[i]? = some oi) (hsel : ∀ (j : Nat) (o : Oper) cs b, ops[j]? = some o -> o.op ≠ .select cs b)
  (hQ : ∀ c a w, Q (.panic c) (a.put oi.dst v) w -> Q (.panic c) a w) :
  ∀ (fuel : Nat) (listed : Array Bool) (a : Act) (w : World),
    (∀ j oj, ops[j]? = some oj -> j ≠ i -> listed.getD j true = false -> (∀ e ∈ oj.after, Region.binds md e = true -> e.on ≠ i) -> oi.apart ops oj = true) ->
    i ∈ Region.ready md ops listed -> YieldsIf P ops S oi v a -> S w ->
    wpAnyR P md ops Q S z fuel (listed.setIfInBounds i true) (a.put oi.dst v) w -> wpAnyR P md ops Q S z (fuel + 1) listed a w := by
 intro fuel
 induction fuel with
 | zero =>
  intro listed a w _ hr hy hS H
  refine ⟨fun h => (by rw [h] at hr; cases hr), fun j hj => ?_⟩
  by_cases hji : j = i
  . subst hji; exact hy.wpOp hi hS ⟨fun _ => hS, H⟩
  . have := ready_mono hj hji
    rw [H.1] at this
    cases this
 | succ fuel ih =>
  intro listed a w hfree hr hy hS H
  refine ⟨fun h => (by rw [h] at hr; cases hr), fun j hj => ?_⟩
  by_cases hji : j = i
  . subst hji; exact hy.wpOp hi hS ⟨fun _ => hS, H⟩
  . have hjz : j ≠ z := fun e => by subst e; exact hji (last_waits hz hj hr).symm
    have h1 := H.2 j (ready_mono hj hji)
    obtain ⟨hjun, oj, hoj, hall⟩ := mem_ready.1 hj
    have hnot : ∀ e ∈ oj.after, Region.binds md e = true -> e.on ≠ i := fun e he hb heq => by
     have h1 := hall e he hb
     have h0 := (mem_ready.1 hr).1
     rw [heq] at h1
     rcases Nat.lt_or_ge i listed.size with h' | h'
     . simp [h'] at h0 h1; rw [h0] at h1; cases h1
     . simp [Array.getElem?_eq_none h'] at h1
    have h2 := wpOp_putIf hoj (hfree j oj hoj hji hjun hnot) (fun cs b => hsel i oi cs b hi) (fun cs b => hsel j oj cs b hoj) hQ hy h1
    have hfree' : ∀ k ok, ops[k]? = some ok -> k ≠ i -> (listed.setIfInBounds j true).getD k true = false ->
       (∀ e ∈ ok.after, Region.binds md e = true -> e.on ≠ i) -> oi.apart ops ok = true := fun k ok hk hki hun hno => by
     refine hfree k ok hk hki ?_ hno
     by_cases hjk : j = k
     . subst hjk; exact hjun
     . rw [getD_set_ne true hjk] at hun; exact hun
    refine wpOp_mono (fun a' w' h3 => ⟨h3.2.1, ih (listed.setIfInBounds j true) a' w' hfree' (ready_mono hr (Ne.symm hji)) h3.1 (h3.2.1 hjz) ?_⟩) h2
    rw [Array.setIfInBounds_comm _ _ hji]
    exact h3.2.2
theorem wpAnyR_take {i : Nat} {oi : Oper} {v : Value} {fuel : Nat} {listed : Array Bool} {a : Act} {w : World} (hz : lastB md ops z = true) (hi : ops[i]? = some oi)
  (hs : Region.noSelect ops = true) (hf : Region.free md ops listed i = true) (hr : (Region.ready md ops listed).contains i = true)
  (hQ : ∀ c a w, Q (.panic c) (a.put oi.dst v) w -> Q (.panic c) a w) (hy : YieldsIf P ops S oi v a) (hS : S w)
  (h : wpAnyR P md ops Q S z fuel (listed.setIfInBounds i true) (a.put oi.dst v) w) : wpAnyR P md ops Q S z (fuel + 1) listed a w :=
 wpAnyR_first hz hi (Region.noSelect_spec hs) hQ fuel listed a w (Region.free_spec hi hf) (by simpa using hr) hy hS h
theorem wpAnyR_one {i : Nat} {o : Oper} {fuel : Nat} {listed : Array Bool} {a : Act} {w : World} (hr : Region.ready md ops listed = [i]) (ho : ops[i]? = some o)
  (h : ∀ K' : Act -> World -> Prop, Shut (∀ a w, (i ≠ z -> S w) -> ((i ≠ z -> S w) -> wpAnyR P md ops Q S z fuel (listed.setIfInBounds i true) a w) -> K' a w) -> if Region.wanted o (yielded ops a.tmps) = true then Oper.wp P o a w K' Q else K' (a.put o.dst undef) w) : wpAnyR P md ops Q S z (fuel + 1) listed a w := by
 refine ⟨(fun h0 => by rw [hr] at h0; cases h0), fun j hj => ?_⟩
 rw [hr] at hj
 obtain rfl := List.mem_singleton.1 hj
 exact wpOp_step ho (fun K' hK => h K' (fun a w hS hW => hK a w ⟨hS, hW hS⟩))
theorem wpAnyR_done {listed : Array Bool} {a : Act} {w : World} (hr : Region.ready md ops listed = []) (h : Q .normal a w) : ∀ fuel, wpAnyR P md ops Q S z fuel listed a w
 | 0 => ⟨hr, h⟩
 | _ + 1 => ⟨fun _ => h, by rw [hr]; simp⟩
theorem wp_region_R {id : Nat} {a : Act} {w : World} (z : Nat) (hm : P.follows .mixedOrders = true) (hS : S w.drew)
  (h : S w.drew -> wpAnyR P .any ops Q S z ops.size (Array.replicate ops.size false) a w.drew) : (Code.region id ops true).wp P Q a w :=
 wp_region_any hm (wpAny_of_R _ _ _ _ (h hS))
theorem tk (i : Nat) {oi : Oper} {v : Value} {fuel : Nat} {listed : Array Bool} {a : Act} {w : World} (hi : ops[i]? = some oi := by simp only [List.getElem?_toArray, List.getElem?_cons_succ, List.getElem?_cons_zero]; rfl) (hs : Region.noSelect ops = true := by kernel_rfl)
 (hf : Region.free md ops listed i = true := by kernel_rfl) (hr : (Region.ready md ops listed).contains i = true := by kernel_rfl) (hQ : ∀ c a w, Q (.panic c) (a.put oi.dst v) w -> Q (.panic c) a w := by exact fun _ _ _ h => h)
 (hS : S w := by first | exact True.intro | assumption) (hy : YieldsIf P ops S oi v a := by exact Or.inl ⟨by rfl, by intro w hSw; (try dsimp only at hSw); go_simp; try with_reducible rfl⟩)
 (h : wpAnyH P md ops Q S fuel (listed.setIfInBounds i true) (a.put oi.dst v) w) : wpAnyH P md ops Q S (fuel + 1) listed a w := wpAnyH_take hi hs hf hr hQ hy hS h
theorem tks (i : Nat) {oi : Oper} {fuel : Nat} {listed : Array Bool} {a : Act} {w : World} (hi : ops[i]? = some oi := by simp only [List.getElem?_toArray, List.getElem?_cons_succ, List.getElem?_cons_zero]; rfl) (hs : Region.noSelect ops = true := by kernel_rfl)
 (hf : Region.free md ops listed i = true := by kernel_rfl) (hr : (Region.ready md ops listed).contains i = true := by kernel_rfl) (hQ : ∀ c a w, Q (.panic c) (a.put oi.dst undef) w -> Q (.panic c) a w := by exact fun _ _ _ h => h)
 (hS : S w := by first | exact True.intro | assumption) (hy : YieldsIf P ops S oi undef a := by exact Or.inr ⟨by rfl, rfl⟩)
 (h : wpAnyH P md ops Q S fuel (listed.setIfInBounds i true) (a.put oi.dst undef) w) : wpAnyH P md ops Q S (fuel + 1) listed a w := wpAnyH_take hi hs hf hr hQ hy hS h
theorem tkR (i : Nat) {oi : Oper} {v : Value} {fuel : Nat} {listed : Array Bool} {a : Act} {w : World} (hi : ops[i]? = some oi := by simp only [List.getElem?_toArray, List.getElem?_cons_succ, List.getElem?_cons_zero]; rfl) (hz : lastB md ops z = true := by kernel_rfl) (hs : Region.noSelect ops = true := by kernel_rfl)
 (hf : Region.free md ops listed i = true := by kernel_rfl) (hr : (Region.ready md ops listed).contains i = true := by kernel_rfl) (hQ : ∀ c a w, Q (.panic c) (a.put oi.dst v) w -> Q (.panic c) a w := by exact fun _ _ _ h => h)
 (hy : YieldsIf P ops S oi v a := by exact Or.inl ⟨by rfl, by intro w hSw; (try dsimp only at hSw); go_simp <;> with_reducible rfl⟩) (hS : S w)
 (h : wpAnyR P md ops Q S z fuel (listed.setIfInBounds i true) (a.put oi.dst v) w) : wpAnyR P md ops Q S z (fuel + 1) listed a w := wpAnyR_take hz hi hs hf hr hQ hy hS h
theorem rdy {fuel : Nat} {listed : Array Bool} {a : Act} {w : World} {i : Nat} {o : Oper} {rs : List Nat} (h : ∀ K' : Act -> World -> Prop, Shut (∀ a w, S w -> (S w -> wpAnyH P md ops Q S fuel (listed.setIfInBounds i true) a w) -> K' a w) -> if Region.wanted o (yielded ops a.tmps) = true then Oper.wp P o a w K' Q else K' (a.put o.dst undef) w)
 (hs : AllReadyH P md ops Q S fuel listed a w rs) (ho : ops[i]? = some o := by simp only [List.getElem?_toArray, List.getElem?_cons_succ, List.getElem?_cons_zero]; rfl) : AllReadyH P md ops Q S fuel listed a w (i :: rs) := .cons ho h hs
end
end Go.Proofs.YtjohdaobhonioaaGreatDoor
