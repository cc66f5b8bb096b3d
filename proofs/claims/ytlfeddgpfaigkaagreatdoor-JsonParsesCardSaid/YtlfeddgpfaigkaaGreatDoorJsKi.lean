/-
  A map of texts to their places that the call has made: which texts it holds, and where each stands; its keys, sorted by the library.
-/
import Derived.Test.YtlfeddgpfaigkaaGreatDoorJsOa
import Derived.Test.YtlfeddgpfaigkaaGreatDoorJsPl
import Derived.Test.YtlfeddgpfaigkaaGreatDoorLayI
import Derived.Test.YtlfeddgpfaigkaaGreatDoorMem
import Derived.Test.YtlfeddgpfaigkaaGreatDoorTx
import Derived.WalkLawsBesides
namespace Go.Proofs.YtlfeddgpfaigkaaGreatDoor
open Go.RowKit Go.Maps Go.Sort Go.Shelf
namespace Js
theorem zeroInt (w : World) : (zeroValue 3).run Tryz.prog w = .ok (.int .i64 0) w := by kernel_rfl
/-- Block bm is a map that holds at each of the texts ks where it stands. -/
def Idx (w : World) (bm N : Nat) (ks : List (List UInt8)) : Prop :=
  ∃ D : DataW Unit, w.ownsMap Tryz.prog 9 (plainElem Tryz.prog 3) bm N D ∧ Maps.IsMap D ∧ (∀ n, Maps.has D (.string n) = decide (n ∈ ks)) ∧ ∀ (i : Nat) (x : List UInt8), ks[i]? = some x → D.atKey (.string x) (.lit (.int .i64 0)) = .lit (.int .i64 (i : Int))
section
variable {w w' : World} {bm N : Nat} {ks : List (List UInt8)}
theorem Idx.lt (h : Idx w bm N ks) : bm < w.heap.size := by obtain ⟨D, h, _⟩ := h; exact h.lt
theorem Idx.block (h : Idx w bm N ks) (hk : w'.heap[bm]? = w.heap[bm]?) : Idx w' bm N ks := by
  obtain ⟨D, ⟨es, clock, hb, r⟩, r2⟩ := h
  exact ⟨D, ⟨es, clock, hk.trans hb, r⟩, r2⟩
theorem Idx.alloc (h : Idx w bm N ks) (o : Obj) : Idx (w.alloc o) bm N ks := h.block (Below.heap_alloc w o bm h.lt)
theorem Idx.drew (h : Idx w bm N ks) : Idx w.drew bm N ks := h
theorem Idx.made (w : World) : Idx (w.alloc (.map #[] 0)) w.heap.size 0 [] :=
  ⟨.map [], World.ownsMap_made _ _ _ _, Maps.isMap_empty, fun _ => rfl, fun i x h => by simp at h⟩
/-- Where does a text stand? -/
theorem Idx.look {T : TypeId} (h : Idx w bm N ks) (ht : Tryz.prog.underlying T = some (.map 9 3)) {i : Nat} {n : List UInt8} (hi : ks[i]? = some n) (hn : n.length ≤ 140737488355328) :
    (Instr.lookup T (.map (some bm)) (.string ⟨n.toArray⟩) false).run Tryz.prog w = .ok (.int .i64 i) w := by
  obtain ⟨D, h, _, _, hf⟩ := h
  obtain ⟨c, hrun, hat, _⟩ := h.lookup_int (Maps.string_keyed Tryz.underlying9) ht Tryz.underlying3 (zeroInt w) (seenKey Tryz.underlying9 n hn)
  rw [hf i n hi] at hat
  have h1 := DataW.lit.inj hat
  have h2 : (i : Int) = c := (Lit.int.inj h1).2
  rw [hrun, h2]
/-- A text is laid. -/
theorem wpList_idx {T : TypeId} {ops : Array Oper} {rest : List Oper} {o : Oper} {a : Act} {Q : Exit → Act → World → Prop}
    (hg : o.guard = none) (m x v : Operand) (hop : o.op = Op.mapUpdate T m x v) (hm : a.eval m = .map (some bm)) (h : Idx w bm N ks) (ht : Tryz.prog.underlying T = some (.map 9 3)) (hN : N ≤ 1099511627776) (k : List UInt8) (hk : k ∉ ks) (hks : ks.length ≤ 1099511627776)
    (hx : a.eval x = .string ⟨k.toArray⟩) (hv : a.eval v = .int .i64 ks.length) (hkl : k.length ≤ 140737488355328)
    (hK : ∀ w', Idx w' bm (N + 1) (ks ++ [k]) → w.grownBy w' (some bm) → wpList Tryz.prog ops Q rest (a.put o.dst undef) w') : wpList Tryz.prog ops Q (o :: rest) a w := by
  obtain ⟨D, ho, hD, hh, hf⟩ := h
  have hw : (Lit.int .i64 (ks.length : Int)).wf = true := by
    simp only [Lit.wf, IntKind.min, IntKind.max, IntKind.signed, IntKind.bits, Bool.and_eq_true, decide_eq_true_eq]
    omega
  refine wpList_mapUpdate_own w hg m x v T hop 9 3 (Maps.string_keyed Tryz.underlying9) ht (plainElem Tryz.prog 3) bm N D hm ho (by unfold maxLen; omega) _ _ (.string k) hx hv (seenKey Tryz.underlying9 k hkl) _ _ (plainElem_int Tryz.underlying3 hw) fun w' h1 h2 => hK w' ⟨_, h1, hD.put _ _, fun n => ?_, fun i y hy => ?_⟩ h2
  · by_cases e : k = n
    · subst e
      rw [Maps.has_put_same hD (by trivial)]
      simp
    · rw [Maps.has_put_other (by simpa using fun h => e h.symm), hh n]
      have : ¬ n = k := fun h => e h.symm
      simp [this]
  · by_cases e : k = y
    · subst e
      rw [Maps.atKey_put_same hD (by trivial)]
      have hi : i = ks.length := by
        rcases Nat.lt_trichotomy i ks.length with h1 | h1 | h1
        · rw [List.getElem?_append_left h1] at hy
          exact absurd (List.mem_of_getElem? hy) hk
        · exact h1
        · rw [List.getElem?_eq_none (by simp; omega)] at hy; cases hy
      rw [hi]
    · rw [Maps.atKey_put_other (by simpa using fun h => e h.symm)]
      refine hf i y ?_
      rcases Nat.lt_or_ge i ks.length with h1 | h1
      · rwa [List.getElem?_append_left h1] at hy
      · rw [List.getElem?_append_right h1] at hy
        cases hj : i - ks.length with
        | zero => rw [hj] at hy; simp at hy; exact absurd hy e
        | succ j => rw [hj] at hy; simp at hy
/-- The keys as the datum has them. -/
theorem Idx.keys (h : Idx w bm N ks) (hn : ks.Nodup) : ∃ D : DataW Unit, w.ownsMap Tryz.prog 9 (plainElem Tryz.prog 3) bm N D ∧ ks.Perm (strKeys D) ∧ Maps.size D = ks.length := by
  obtain ⟨D, ho, hD, hh, _⟩ := h
  obtain ⟨es, rfl, hpw, _⟩ := ho.entries (Maps.string_keyed Tryz.underlying9)
  obtain ⟨es', e', hko⟩ := ho.keysOf
  obtain rfl : es = es' := by simpa using e'
  have hp : ks.Perm (strKeys (.map es : DataW Unit)) := perm_strKeys hpw (fun p hp => by obtain ⟨v, hv⟩ := hko p hp; obtain ⟨x, _, hx, _⟩ := Maps.keyOf_str Tryz.underlying9 hv; exact ⟨x, hx⟩) hn (fun x => by rw [hh x]; simp)
  refine ⟨_, ho, hp, ?_⟩
  have := hp.length_eq
  rw [this]
  simp [strKeys, Maps.size]
end
theorem sorts95 (m : Nat) : AnyZ.SortsIn Tryz.prog sorted95_ren Fence.wide m :=
  ⟨fun blk off cap ss W hH hblk hsz => callsIn_wide.2 (AnyM.slices_Sort_string sort139 blk off cap ss W hH hblk hsz),
   fun p cap W => callsIn_wide.2 (AnyM.slices_Sort_string_none sort139 p cap W)⟩
/-- maps.Keys. -/
theorem keys_any (bm : Nat) (w : World) : Calls Tryz.prog 96 #[.map (some bm)] w fun x w' => x = .returned (.func (.func 140) #[] #[.pointer (some ⟨w.heap.size, 0, none⟩)]) ∧ w' = w.alloc (.cells #[.map (some bm)] 167) :=
  (callsIn_wide (n := 5)).1 (AnyZ.keys_in keys96 Fence.wide 5 trivial rfl (some bm) w)
/-- slices.Sorted of what maps.Keys answered. -/
theorem sorted_any {bm N : Nat} {ks : List (List UInt8)} {w : World} (h : Idx w bm N ks) (hn : ks.Nodup) (hl : ks.length ≤ 1099511627776) :
    Calls Tryz.prog 95 #[.func (.func 140) #[] #[.pointer (some ⟨w.heap.size, 0, none⟩)]] (w.alloc (.cells #[.map (some bm)] 167)) fun x w' =>
      ∃ (v : Value) (ss : List (List UInt8)), x = .returned v ∧ ss.Perm ks ∧ w'.ownsRow (w.heap.size + 1) 9 1 v ss.length (tx (ss.mergeSort (fun x y => decide (x ≤ y)))) ∧ Below (w.heap.size + 1) (w.alloc (.cells #[.map (some bm)] 167)) w' := by
  obtain ⟨D, hown, hp, hsz⟩ := h.keys hn
  have hbl := hown.lt
  have hseq : SeqGives Fence.wide 2 Tryz.prog 140 #[.pointer (some ⟨w.heap.size, 0, none⟩)] encStr (fun ss => ss.Perm (strKeys D)) (Maps.size D) (w.alloc (.cells #[.map (some bm)] 167)) :=
    AnyZ.keys_gives (ρ := keys96_ren) { keys96 with } Fence.wide _ trivial rfl (by omega) w.heap.size bm N D _ (by simp) (by simp) (by
      obtain ⟨es, clock, hb, Ft, hs, hD⟩ := hown
      exact ⟨es, clock, (Below.heap_alloc _ _ bm hbl).trans hb, Ft, hs, hD⟩)
  refine (callsIn_wide (n := 5)).1 ((AnyZ.sorted_in sorted95 Fence.wide 5 trivial trivial trivial trivial rfl (by omega) (sorts95 _) (enters_of Tryz.func139 (by kernel_rfl) rfl) 140 #[.pointer (some ⟨w.heap.size, 0, none⟩)] trivial (enters_of Tryz.func140 (by kernel_rfl) rfl) _ _ (by rw [hsz]; unfold maxLen; omega) (by rw [hsz]; omega) _ hseq).mono ?_)
  rintro e w' ⟨v, ss, rfl, hS, hrow, hnil, hb⟩
  refine ⟨v, ss, rfl, hS.trans hp.symm, ?_, by simpa using hb⟩
  have hsz1 : (w.alloc (.cells #[.map (some bm)] 167)).heap.size = w.heap.size + 1 := by simp
  rw [← hsz1]
  exact hrow
end Js
end Go.Proofs.YtlfeddgpfaigkaaGreatDoor
