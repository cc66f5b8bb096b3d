/-
  The walks of package expand's put (of a literal, of a variable) and of all, at this seat's translation: what pieces come to is laid behind a builder's bytes, as far as that is no more than 65536 bytes. A map of texts that the call has filled.
-/
import Derived.Test.YtnmnhnhlggbijaaDoorExpR
import Derived.Test.YtnmnhnhlggbijaaDoorBld
import Derived.Maps.Own
import Derived.Maps.OwnOps
import Derived.Maps.Views
import Derived.Maps.StringElems
namespace Go.Proofs.YtnmnhnhlggbijaaDoor
open Go.RowKit
namespace Exp
open T

theorem len_b (b : Nat) (l : List UInt8) (w : World) (h : Bd b l w) :
    Calls Tryd.prog 97 #[.pointer (some ⟨b, 0, none⟩)] w fun e w' => e = .returned (.int .i64 l.length) ∧ w = w' := by
  obtain ⟨p, hA⟩ : ∃ p, Lib.BuilderAtF 84 5 b b p (Lib.byteCells l) w := by
    rcases h with h | h
    · exact ⟨_, h⟩
    · exact ⟨_, h⟩
  obtain ⟨hB, v, hbk, hown, hne⟩ := hA
  have c1 : w.cell? ⟨b, 1, none⟩ = some v := by rw [Lib.cell_of_heap hbk]; rfl
  have hl : (Lib.byteCells l).length = l.length := by simp [Lib.byteCells]
  rw [hl] at hown
  have HV : ∃ A c, v = .slice A l.length c := by
    rcases hown.2 with ⟨rfl, h0⟩ | ⟨g, cap, cur, fz, rfl, _⟩
    · refine ⟨none, 0, ?_⟩
      have : l = [] := List.eq_nil_of_length_eq_zero h0
      subst this; rfl
    · exact ⟨_, _, rfl⟩
  obtain ⟨A, c, rfl⟩ := HV
  clear hbk hown hl hne hB
  go_enter Tryd.func97, Tryd.ntmps97
  go_wp2
  go_ret
  exact ⟨rfl, rfl⟩

/-- What put leaves: whether the bytes fit; the builder; nothing below it has changed. -/
def PutPost (b : Nat) (l x : List UInt8) (w : World) (e : Ending) (w' : World) : Prop :=
  ∃ l', e = .returned (.bool (decide (l.length + x.length ≤ 65536))) ∧ (l.length + x.length ≤ 65536 → l' = l ++ x) ∧ Bd b l' w' ∧ Below b w w'

theorem litPut_any (b : Nat) (l u : List UInt8) (m : Value) (w : World) (h : Bd b l w) (hl : l.length ≤ 65536) (hu : u.length ≤ 140737488355328) :
    Calls Tryd.prog 96 #[.string ⟨u.toArray⟩, .pointer (some ⟨b, 0, none⟩), m] w (PutPost b l u w) := by
  have HL := Lib.hid (len_b b l w h)
  have HB := Lib.hid h
  clear h
  by_cases hfit : l.length + u.length ≤ 65536
  · have HW := Lib.hid (writeString_b b l ⟨u.toArray⟩ w HB.out (by simp [ByteArray.size]; omega))
    have q1 : decide (65536 < (l.length : Int) + (u.length : Int)) = false := by rw [decide_eq_false_iff_not]; omega
    have HD : Hid (decide (l.length + u.length ≤ 65536) = true) := Lib.hid (decide_eq_true hfit)
    clear hl hu
    go_enter Tryd.func96, Tryd.ntmps96
    go_wp2_with fail
    refine HL.out.mono ?_
    rintro e w' ⟨rfl, rfl⟩
    go_wp2_with fail
    refine HW.out.mono ?_
    rintro e w1 ⟨rfl, h1, h2⟩
    have H1 := Lib.hid h1
    have H2 := Lib.hid h2
    clear h1 h2
    go_wp2
    go_ret
    exact ⟨_, by rw [HD.out]; rfl, fun _ => rfl, H1.out, H2.out.below⟩
  · have q1 : decide (65536 < (l.length : Int) + (u.length : Int)) = true := by rw [decide_eq_true_iff]; omega
    have HD : Hid (decide (l.length + u.length ≤ 65536) = false) := Lib.hid (decide_eq_false hfit)
    have HN := Lib.hid hfit
    clear hfit
    go_enter Tryd.func96, Tryd.ntmps96
    go_wp2_with fail
    refine HL.out.mono ?_
    rintro e w' ⟨rfl, rfl⟩
    go_wp2
    go_ret
    exact ⟨l, by rw [HD.out]; rfl, fun h => absurd h HN.out, HB.out, Below.refl _ _⟩

/-! ### A map of texts -/
theorem law9 : Maps.Keyed Tryd.prog 9 := Maps.string_keyed Tryd.underlying9
theorem zero9 (w : World) : (zeroValue 9).run Tryd.prog w = .ok (.string .empty) w := by kernel_rfl
/-- Block bm is a map that holds f's texts. -/
def Vars (w : World) (bm : Nat) (N : Nat) (f : List UInt8 → List UInt8) : Prop :=
  ∃ D : DataW Unit, w.ownsMap Tryd.prog 9 (plainElem Tryd.prog 9) bm N D ∧ Maps.IsMap D ∧ ∀ n, D.atKey (.string n) (.lit (.string [])) = .lit (.string (f n)) ∧ (f n).length ≤ 140737488355328
section
variable {w w' : World} {bm N : Nat} {f : List UInt8 → List UInt8}
theorem Vars.lt (h : Vars w bm N f) : bm < w.heap.size := by obtain ⟨D, h, _⟩ := h; exact h.lt
theorem Vars.kept {row : Option Nat} (h : Vars w bm N f) (hg : w.grownBy w' row) (hne : some bm ≠ row) : Vars w' bm N f := by
  obtain ⟨D, h, r⟩ := h
  exact ⟨D, h.kept hg hne, r⟩
theorem Vars.block (h : Vars w bm N f) (hk : w'.heap[bm]? = w.heap[bm]?) : Vars w' bm N f := by
  obtain ⟨D, ⟨es, clock, hb, r⟩, r2⟩ := h
  exact ⟨D, ⟨es, clock, hk.trans hb, r⟩, r2⟩
theorem Vars.made (w : World) : Vars (w.alloc (.map #[] 0)) w.heap.size 0 (fun _ => []) :=
  ⟨.map [], World.ownsMap_made _ _ _ _, Maps.isMap_empty, fun n => ⟨rfl, by simp⟩⟩
/-- What stands at a name. -/
theorem Vars.look (h : Vars w bm N f) (n : List UInt8) (hn : n.length ≤ 140737488355328) : (Instr.lookup 81 (.map (some bm)) (.string ⟨n.toArray⟩) false).run Tryd.prog w = .ok (.string ⟨(f n).toArray⟩) w := by
  obtain ⟨D, h, _, hf⟩ := h
  have hk : keyOf Tryd.prog 9 (.string ⟨n.toArray⟩) = some (.string n) := by
    have := WideMaps.keyOf_string_mk (P := Tryd.prog) (k := 9) Tryd.underlying9 (s := ⟨n.toArray⟩) (by simp [ByteArray.size, maxLen]; omega)
    simpa using this
  obtain ⟨v, ps, hrun, hv⟩ := h.lookup law9 Tryd.underlying81 (zero9 w) (plainElem_string (P := Tryd.prog) (e := 9) Tryd.underlying9 (s := .empty) (by simp [maxLen])) hk
  obtain ⟨s, rfl, hs, _⟩ := plainElem_string_inv Tryd.underlying9 hv
  rw [show (ByteArray.empty.data.toList : List UInt8) = [] from rfl, (hf n).1] at hs
  simp only [Prod.mk.injEq] at hs
  have hs1 := DataW.lit.inj hs.1
  have hs2 : f n = s.data.toList := Lit.string.inj hs1
  rw [hrun, hs2]
/-- A text is laid at a name. -/
theorem wpList_vars {ops : Array Oper} {rest : List Oper} {o : Oper} {a : Act} {Q : Exit → Act → World → Prop}
    (hg : o.guard = none) (m x v : Operand) (hop : o.op = Op.mapUpdate 81 m x v) (hm : a.eval m = .map (some bm)) (h : Vars w bm N f) (hN : N ≤ 140737488355328) (k u : List UInt8)
    (hx : a.eval x = .string ⟨k.toArray⟩) (hv : a.eval v = .string ⟨u.toArray⟩) (hk : k.length ≤ 140737488355328) (hu : u.length ≤ 140737488355328)
    (hK : ∀ w', Vars w' bm (N + 1) (fun n => if k = n then u else f n) → w.grownBy w' (some bm) → wpList Tryd.prog ops Q rest (a.put o.dst undef) w') : wpList Tryd.prog ops Q (o :: rest) a w := by
  obtain ⟨D, ho, hD, hf⟩ := h
  have hkey : keyOf Tryd.prog 9 (.string ⟨k.toArray⟩) = some (.string k) := by
    have := WideMaps.keyOf_string_mk (P := Tryd.prog) (k := 9) Tryd.underlying9 (s := ⟨k.toArray⟩) (by simp [ByteArray.size, maxLen]; omega)
    simpa using this
  have hval := plainElem_string (H := Unit) (P := Tryd.prog) (e := 9) Tryd.underlying9 (s := ⟨u.toArray⟩) (by simp [ByteArray.size, maxLen]; omega)
  refine wpList_mapUpdate_own w hg m x v 81 hop 9 9 law9 Tryd.underlying81 (plainElem Tryd.prog 9) bm N D hm ho (by unfold maxLen; omega) _ _ (.string k) hx hv hkey _ _ hval fun w' h1 h2 => hK w' ⟨_, h1, hD.put _ _, fun n => ?_⟩ h2
  by_cases e : k = n
  · subst e
    simp only [if_pos]
    exact ⟨Maps.atKey_put_same hD (by trivial) _ _, hu⟩
  · simp only [if_neg e]
    rw [Maps.atKey_put_other (by simpa using fun h => e h.symm)]
    exact hf n
end
theorem Pcs.zero {w : World} {S : Nat → Prop} {t : T} {vs : List Value} (h : Pcs encP w S t vs 0) : t = .nil := by
  generalize hk : 0 = k at h
  cases h with
  | nil => rfl
  | lit _ _ => cases hk
  | var _ _ _ _ _ _ _ => cases hk
/-- The next piece. -/
theorem Pcs.next {w : World} {S : Nat → Prop} {t : T} {vs : List Value} {k : Nat} (h : Pcs encP w S t vs k) (hk : 0 < k) :
    (∃ u t' vs', t = lits u t' ∧ vs = litV u :: vs' ∧ Pcs encP w S t' vs' (k - 1)) ∨
    ∃ n o A m c us i t' vs', t = .var n o i t' ∧ vs = varV n o A m c :: vs' ∧ Pcs encP w S i us m ∧ m ≤ 4398046511104 ∧ (0 < m → ∃ ad, A = some ad ∧ S ad.block ∧ ∀ j u, us[j]? = some u → w.cell? (ad.add j) = some u) ∧ Pcs encP w S t' vs' (k - 1) ∧ n ≠ [] := by
  cases h with
  | nil => omega
  | lit u h => exact .inl ⟨u, _, _, rfl, rfl, h⟩
  | var n o hn hm hA h1 h2 => exact .inr ⟨n, o, _, _, _, _, _, _, _, rfl, rfl, h1, hm, hA, h2, hn⟩
end Exp
end Go.Proofs.YtnmnhnhlggbijaaDoor
