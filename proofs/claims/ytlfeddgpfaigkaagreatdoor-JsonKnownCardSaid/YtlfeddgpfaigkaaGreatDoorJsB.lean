/-
  A map of texts to true that the call has made: which texts it holds.
-/
import Derived.Test.YtlfeddgpfaigkaaGreatDoorProg
import Derived.WalkKit
import Derived.Maps.Own
import Derived.Maps.OwnOps
import Derived.Maps.Views
import Derived.Maps.StringElems
namespace Go.Proofs.YtlfeddgpfaigkaaGreatDoor
open Go.RowKit
namespace Js
theorem plainElem_bool_inv {H : Type} {P : Program} {e : TypeId} (he : P.underlying e = some .bool) {v : Value} {z : DataW H × List MemPlace} (h : plainElem P e v = some z) : ∃ b, v = .bool b ∧ z = (.lit (.bool b), []) := by
  unfold plainElem at h
  rw [he] at h
  cases v <;> simp at h
  exact ⟨_, rfl, h.symm⟩
theorem zeroBool (w : World) : (zeroValue 4).run Tryz.prog w = .ok (.bool false) w := by kernel_rfl
/-- Block bm is a map (its keys of type kt) that holds true at the texts of ks alone. -/
def Seen (kt : TypeId) (w : World) (bm N : Nat) (ks : List (List UInt8)) : Prop :=
  ∃ D : DataW Unit, w.ownsMap Tryz.prog kt (plainElem Tryz.prog 4) bm N D ∧ Maps.IsMap D ∧ ∀ n, D.atKey (.string n) (.lit (.bool false)) = .lit (.bool (decide (n ∈ ks)))
section
variable {kt : TypeId} {w w' : World} {bm N : Nat} {ks : List (List UInt8)}
theorem Seen.lt (h : Seen kt w bm N ks) : bm < w.heap.size := by obtain ⟨D, h, _⟩ := h; exact h.lt
theorem Seen.block (h : Seen kt w bm N ks) (hk : w'.heap[bm]? = w.heap[bm]?) : Seen kt w' bm N ks := by
  obtain ⟨D, ⟨es, clock, hb, r⟩, r2⟩ := h
  exact ⟨D, ⟨es, clock, hk.trans hb, r⟩, r2⟩
theorem Seen.kept {row : Option Nat} (h : Seen kt w bm N ks) (hg : w.grownBy w' row) (hne : some bm ≠ row) : Seen kt w' bm N ks := h.block (hg.block bm h.lt hne)
theorem Seen.alloc (h : Seen kt w bm N ks) (o : Obj) : Seen kt (w.alloc o) bm N ks := h.block (Below.heap_alloc w o bm h.lt)
theorem Seen.drew (h : Seen kt w bm N ks) : Seen kt w.drew bm N ks := h
theorem Seen.made (kt : TypeId) (w : World) : Seen kt (w.alloc (.map #[] 0)) w.heap.size 0 [] :=
  ⟨.map [], World.ownsMap_made _ _ _ _, Maps.isMap_empty, fun _ => rfl⟩
theorem seenKey (hk : Tryz.prog.underlying kt = some .string) (n : List UInt8) (hn : n.length ≤ 140737488355328) : keyOf Tryz.prog kt (.string ⟨n.toArray⟩) = some (.string n) := by
  have := WideMaps.keyOf_string_mk (P := Tryz.prog) (k := kt) hk (s := ⟨n.toArray⟩) (by simp [ByteArray.size, maxLen]; omega)
  simpa using this
/-- Is a text there? -/
theorem Seen.look {T : TypeId} (h : Seen kt w bm N ks) (hk : Tryz.prog.underlying kt = some .string) (ht : Tryz.prog.underlying T = some (.map kt 4)) (n : List UInt8) (hn : n.length ≤ 140737488355328) :
    (Instr.lookup T (.map (some bm)) (.string ⟨n.toArray⟩) false).run Tryz.prog w = .ok (.bool (decide (n ∈ ks))) w := by
  obtain ⟨D, h, _, hf⟩ := h
  obtain ⟨v, ps, hrun, hv⟩ := h.lookup (Maps.string_keyed hk) ht (zeroBool w) (plainElem_bool (P := Tryz.prog) (e := 4) Tryz.underlying4 false) (seenKey hk n hn)
  obtain ⟨b, rfl, hs⟩ := plainElem_bool_inv Tryz.underlying4 hv
  rw [hf n] at hs
  simp only [Prod.mk.injEq] at hs
  have hs1 := DataW.lit.inj hs.1
  have hs2 : decide (n ∈ ks) = b := Lit.bool.inj hs1
  rw [hrun, hs2]
/-- A text is laid. -/
theorem wpList_seen {T : TypeId} {ops : Array Oper} {rest : List Oper} {o : Oper} {a : Act} {Q : Exit → Act → World → Prop}
    (hg : o.guard = none) (m x v : Operand) (hop : o.op = Op.mapUpdate T m x v) (hm : a.eval m = .map (some bm)) (h : Seen kt w bm N ks) (hk : Tryz.prog.underlying kt = some .string) (ht : Tryz.prog.underlying T = some (.map kt 4)) (hN : N ≤ 140737488355328) (k : List UInt8)
    (hx : a.eval x = .string ⟨k.toArray⟩) (hv : a.eval v = .bool true) (hkl : k.length ≤ 140737488355328)
    (hK : ∀ w', Seen kt w' bm (N + 1) (ks ++ [k]) → w.grownBy w' (some bm) → wpList Tryz.prog ops Q rest (a.put o.dst undef) w') : wpList Tryz.prog ops Q (o :: rest) a w := by
  obtain ⟨D, ho, hD, hf⟩ := h
  have hval := plainElem_bool (H := Unit) (P := Tryz.prog) (e := 4) Tryz.underlying4 true
  refine wpList_mapUpdate_own w hg m x v T hop kt 4 (Maps.string_keyed hk) ht (plainElem Tryz.prog 4) bm N D hm ho (by unfold maxLen; omega) _ _ (.string k) hx hv (seenKey hk k hkl) _ _ hval fun w' h1 h2 => hK w' ⟨_, h1, hD.put _ _, fun n => ?_⟩ h2
  by_cases e : k = n
  · subst e
    rw [Maps.atKey_put_same hD (by trivial)]
    simp
  · rw [Maps.atKey_put_other (by simpa using fun h => e h.symm), hf n]
    have : ¬ n = k := fun h => e h.symm
    simp [this]
end
end Js
end Go.Proofs.YtlfeddgpfaigkaaGreatDoor
