/-
  Of no walk: the first clash of a list, and a map keyed by digests that holds the first place of each.
-/
import Derived.Test.YtgjelinnpcekmaaGreatDoorDigC
import Derived.Maps.OwnSet
import Derived.Maps.OwnOps
import Derived.DeepKeys4
namespace Go.Proofs.YtgjelinnpcekmaaGreatDoor
open Go.RowKit Sha

/-! ### The first clash -/
section
variable {n : Nat} {D T : Nat → List UInt8}
/-- Places i, j: unlike texts (T), one digest (D). -/
def CL (D T : Nat → List UInt8) (i j : Nat) : Prop := i < j ∧ D i = D j ∧ T i ≠ T j
/-- No clash among the first n. -/
def NoCL (D T : Nat → List UInt8) (n : Nat) : Prop := ∀ i j, j < n → ¬ CL D T i j
/-- What is told of the first n. -/
def ClashIs (D T : Nat → List UInt8) (n : Nat) (i j : Nat) (b : Bool) : Prop :=
  (b = true ∧ j < n ∧ CL D T i j ∧ NoCL D T j ∧ ∀ x, x < i → ¬ CL D T x j) ∨ (b = false ∧ i = 0 ∧ j = 0 ∧ NoCL D T n)
theorem clashIs_one {i j i' j' : Nat} {b b' : Bool} (h : ClashIs D T n i j b) (h' : ClashIs D T n i' j' b') : i = i' ∧ j = j' ∧ b = b' := by
  rcases h with ⟨rfl, hj, hc, hn, hx⟩ | ⟨rfl, rfl, rfl, hn⟩
  · rcases h' with ⟨rfl, hj', hc', hn', hx'⟩ | ⟨rfl, rfl, rfl, hn'⟩
    · have hjj : j = j' := by
        rcases Nat.lt_trichotomy j j' with h | h | h
        · exact absurd hc (hn' i j h)
        · exact h
        · exact absurd hc' (hn i' j' h)
      subst hjj
      have hii : i = i' := by
        rcases Nat.lt_trichotomy i i' with h | h | h
        · exact absurd hc (hx' i h)
        · exact h
        · exact absurd hc' (hx i' h)
      exact ⟨hii, rfl, rfl⟩
    · exact absurd hc (hn' i j hj)
  · rcases h' with ⟨rfl, hj', hc', hn', hx'⟩ | ⟨rfl, rfl, rfl, hn'⟩
    · exact absurd hc' (hn i' j' hj')
    · exact ⟨rfl, rfl, rfl⟩
theorem NoCL.zero : NoCL D T 0 := fun _ _ h => absurd h (by omega)
theorem NoCL.succ {k : Nat} (h : NoCL D T k) (hk : ∀ i, i < k → ¬ CL D T i k) : NoCL D T (k + 1) := fun i j hj hc => by
  by_cases e : j = k
  · subst e; exact hk i hc.1 hc
  · exact h i j (by omega) hc
/-- The first place of a digest among the first k. -/
def First (D : Nat → List UInt8) (s : List UInt8) (k i : Nat) : Prop := i < k ∧ D i = s ∧ ∀ j, j < i → D j ≠ s
theorem first_ex {s : List UInt8} : ∀ (k i : Nat), i < k → D i = s → ∃ j, First D s k j := by
  intro k i
  induction i using Nat.strongRecOn with
  | _ i ih =>
    intro hi hs
    by_cases h : ∃ j, j < i ∧ D j = s
    · obtain ⟨j, hj, hs'⟩ := h
      exact ih j hj (by omega) hs'
    · exact ⟨i, hi, hs, fun j hj e => h ⟨j, hj, e⟩⟩
/-- The first of its digest is the same text: then none ahead clashes. -/
theorem first_same {k i : Nat} (hf : First D (D k) k i) (ht : T i = T k) (hn : NoCL D T k) : ∀ x, x < k → ¬ CL D T x k := by
  rintro x hx ⟨_, h1, h2⟩
  obtain ⟨hik, h3, h4⟩ := hf
  have hix : i ≤ x := by
    rcases Nat.lt_or_ge x i with h | h
    · exact absurd h1 (h4 x h)
    · exact h
  by_cases e : i = x
  · subst e; exact h2 ht
  · exact hn i x hx ⟨by omega, by rw [h3, h1], fun e2 => h2 (by rw [← e2, ht])⟩
theorem first_other {k i : Nat} (hf : First D (D k) k i) (ht : T i ≠ T k) : CL D T i k ∧ ∀ x, x < i → ¬ CL D T x k :=
  ⟨⟨hf.1, hf.2.1, ht⟩, fun x hx hc => hf.2.2 x hx hc.2.1⟩
end

/-! ### The map -/
def dv (s : List UInt8) : Value := .agg (s.map U8).toArray
theorem map_U8_inj {s t : List UInt8} (h : s.map U8 = t.map U8) : s = t := by
  induction s generalizing t with
  | nil => cases t with | nil => rfl | cons a t => simp at h
  | cons a s ih =>
    cases t with
    | nil => simp at h
    | cons b t =>
      simp only [List.map_cons, List.cons.injEq] at h
      have hab : a = b := by
        have := h.1
        unfold U8 at this
        injection this with _ h2
        exact UInt8.toNat_inj.1 (by omega)
      rw [hab, ih h.2]
theorem dv_inj {s t : List UInt8} (h : dv s = dv t) : s = t := by
  unfold dv at h
  injection h with h
  exact map_U8_inj (by simpa using congrArg Array.toList h)
theorem law_dig : Maps.Keyed Tryz.prog 25 :=
  Maps.Keyed.of_law (deep_law_laid laidOut (m := 3) (by omega) (of_decide_eq_true (by kernel_rfl)) (by kernel_rfl) (by rw [Tryz.underlying25]))
theorem mapM_some {α β : Type} {f : α → Option β} : ∀ (l : List α), (∀ x ∈ l, ∃ y, f x = some y) → ∃ r, l.mapM f = some r
  | [], _ => ⟨[], rfl⟩
  | x :: l, h => by
    obtain ⟨y, hy⟩ := h x (by simp)
    obtain ⟨r, hr⟩ := mapM_some l (fun z hz => h z (by simp [hz]))
    exact ⟨y :: r, by simp [List.mapM_cons, hy, hr]⟩
theorem key_dig (s : List UInt8) (h : s.length = 32) : ∃ kl, keyOf Tryz.prog 25 (dv s) = some kl := by
  have hkt : Tryz.prog.keyType 25 = true := by kernel_rfl
  have hcd : Tryz.prog.cellsOf 25 = 32 := by kernel_rfl
  have hc1 : Tryz.prog.cellsOf 5 = 1 := by kernel_rfl
  obtain ⟨m, hm⟩ : ∃ m, Tryz.prog.types.size = m + 1 := ⟨Tryz.prog.types.size - 1, by have : 0 < Tryz.prog.types.size := of_decide_eq_true (by kernel_rfl); omega⟩
  have hcells : (dv s).cells.toList = s.map U8 := by unfold dv; simp [Value.cells]
  have hlits : ∃ ls, Tryz.prog.keyLits (Tryz.prog.types.size + 1) 25 (s.map U8) = some ls := by
    rw [hm]
    unfold Program.keyLits
    rw [Tryz.underlying25]
    simp only
    rw [if_pos (by rw [hcd]; simpa using h)]
    obtain ⟨r, hr⟩ := mapM_some (f := fun i => Tryz.prog.keyLits (m + 1) 5 (((s.map U8).drop (i * Tryz.prog.cellsOf 5)).take (Tryz.prog.cellsOf 5))) (List.range 32) (by
      intro i hi
      have hi' := List.mem_range.1 hi
      rw [hc1, Nat.mul_one]
      have hg : ((s.map U8).drop i).take 1 = [U8 (s.getD i 0)] := by
        rw [List.drop_eq_getElem_cons (by simpa [h] using hi')]
        simp [List.getD, List.getElem?_eq_getElem (show i < s.length by omega)]
      rw [hg]
      unfold Program.keyLits U8
      rw [Tryz.underlying5]
      generalize s.getD i 0 = c
      have hw : (Lit.int .u8 (c.toNat : Int)).wf = true := by
        have := c.toNat_lt
        have h0 : IntKind.u8.min = 0 := rfl
        have h1 : IntKind.u8.max = 255 := rfl
        simp [Lit.wf, h0, h1]; omega
      exact ⟨[.int .u8 (c.toNat : Int)], by simp only; rw [if_pos ⟨trivial, hw⟩]⟩)
    rw [hr]
    exact ⟨_, rfl⟩
  obtain ⟨ls, hls⟩ := hlits
  refine ⟨.string (keyBytes ls), ?_⟩
  unfold keyOf
  rw [Tryz.underlying25]
  simp only [hkt, Bool.true_and]
  rw [if_pos ?_, hcells, hls]
  · rfl
  · unfold dv Value.formed
    rw [Tryz.underlying25]
    simp [hcd, h]
/-- A map that holds the first place of each digest among the first k. -/
def MapOk (D : Nat → List UInt8) (w : World) (b k : Nat) : Prop :=
  ∃ M : DataW Unit, w.ownsMap Tryz.prog 25 (plainElem Tryz.prog 3) b k M ∧ Maps.IsMap M ∧ ∀ s kl, s.length = 32 → keyOf Tryz.prog 25 (dv s) = some kl →
    (Maps.has M kl = true ↔ ∃ i, i < k ∧ D i = s) ∧ ∀ i, First D s k i → M.atKey kl (.lit (.int .i64 0)) = .lit (.int .i64 i)
theorem isKey_dig {s : List UInt8} {kl : Lit} (h : keyOf Tryz.prog 25 (dv s) = some kl) : WideAt.IsKeyLit kl := law_dig.key h
theorem MapOk.made (D : Nat → List UInt8) (w : World) : MapOk D (w.alloc (.map #[] 0)) w.heap.size 0 :=
  ⟨.map [], World.ownsMap_made _ _ _ _, Maps.isMap_empty, fun s kl _ _ => ⟨⟨fun h => by simp [Maps.has] at h, fun ⟨i, hi, _⟩ => absurd hi (by omega)⟩, fun i hi => absurd hi.1 (by omega)⟩⟩
theorem MapOk.below {D : Nat → List UInt8} {w w' : World} {b k : Nat} (h : MapOk D w b k) (hb : Below w.heap.size w w') : MapOk D w' b k := by
  obtain ⟨M, h1, h2, h3⟩ := h
  exact ⟨M, h1.kept (row := none) ⟨hb.os, hb.tape, hb.output, hb.size, fun j hj _ => hb.block j hj⟩ (by simp), h2, h3⟩
theorem MapOk.lt {D : Nat → List UInt8} {w : World} {b k : Nat} (h : MapOk D w b k) : b < w.heap.size := by
  obtain ⟨M, h1, _⟩ := h; exact h1.lt
/-- The digest was there: nothing turns. -/
theorem MapOk.old {D : Nat → List UInt8} {w : World} {b k i : Nat} (h : MapOk D w b k) (hf : First D (D k) k i) : MapOk D w b (k + 1) := by
  obtain ⟨M, h1, h2, h3⟩ := h
  refine ⟨M, h1.mono (by omega), h2, fun s kl hs hk => ?_⟩
  obtain ⟨h4, h5⟩ := h3 s kl hs hk
  constructor
  · rw [h4]
    constructor
    · rintro ⟨j, hj, e⟩; exact ⟨j, by omega, e⟩
    · rintro ⟨j, hj, e⟩
      by_cases hjk : j = k
      · subst hjk; exact ⟨i, hf.1, by rw [hf.2.1, e]⟩
      · exact ⟨j, by omega, e⟩
  · rintro j ⟨hj, e, hl⟩
    refine h5 j ⟨?_, e, hl⟩
    by_cases hjk : j = k
    · subst hjk
      exact absurd (by rw [hf.2.1, e]) (hl i hf.1)
    · omega
/-- A new digest. -/
theorem MapOk.new {D : Nat → List UInt8} {w' : World} {b k : Nat} {M : DataW Unit} {kl0 : Lit} (hD : (D k).length = 32) (hk0 : keyOf Tryz.prog 25 (dv (D k)) = some kl0) (h2 : Maps.IsMap M)
    (h3 : ∀ s kl, s.length = 32 → keyOf Tryz.prog 25 (dv s) = some kl → (Maps.has M kl = true ↔ ∃ i, i < k ∧ D i = s) ∧ ∀ i, First D s k i → M.atKey kl (.lit (.int .i64 0)) = .lit (.int .i64 i))
    (hno : ¬ ∃ i, i < k ∧ D i = D k) (h1 : w'.ownsMap Tryz.prog 25 (plainElem Tryz.prog 3) b (k + 1) (M.put kl0 (.lit (.int .i64 k)))) : MapOk D w' b (k + 1) := by
  refine ⟨_, h1, h2.put _ _, fun s kl hs hk => ?_⟩
  obtain ⟨h4, h5⟩ := h3 s kl hs hk
  by_cases hse : s = D k
  · subst hse
    obtain rfl : kl = kl0 := Option.some.inj (hk.symm.trans hk0)
    constructor
    · rw [Maps.has_put_same h2 (isKey_dig hk0)]
      exact ⟨fun _ => ⟨k, by omega, rfl⟩, fun _ => rfl⟩
    · rintro j ⟨hj, e, _⟩
      have hjk : j = k := by
        by_cases hjk : j = k
        · exact hjk
        · exact absurd ⟨j, by omega, e⟩ hno
      subst hjk
      exact Maps.atKey_put_same h2 (isKey_dig hk0) _ _
  · have hne : kl ≠ kl0 := by
      rintro rfl
      exact hse (dv_inj (law_dig.inj hk hk0))
    constructor
    · rw [Maps.has_put_other hne, h4]
      constructor
      · rintro ⟨j, hj, e⟩; exact ⟨j, by omega, e⟩
      · rintro ⟨j, hj, e⟩
        by_cases hjk : j = k
        · subst hjk; exact absurd e.symm hse
        · exact ⟨j, by omega, e⟩
    · rintro j ⟨hj, e, hl⟩
      rw [Maps.atKey_put_other hne]
      refine h5 j ⟨?_, e, hl⟩
      by_cases hjk : j = k
      · subst hjk; exact absurd e.symm hse
      · omega
end Go.Proofs.YtgjelinnpcekmaaGreatDoor
