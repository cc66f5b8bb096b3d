/-
  Words for the walk of package json's write: trimmed values, the builder's memory beside other memory of the call's own, forms laid one behind the other.
-/
import Derived.Test.YtlfeddgpfaigkaaGreatDoorJsWv
import Derived.Test.YtlfeddgpfaigkaaGreatDoorJsC
import Derived.Test.YtlfeddgpfaigkaaGreatDoorJsKi
import Derived.Test.YtlfeddgpfaigkaaGreatDoorJsQu
namespace Go.Proofs.YtlfeddgpfaigkaaGreatDoor
open Go.RowKit
namespace Js
theorem own_trim (d : Nat) (h : Hd) (k : F) : own d (trimH h) (trimK h k).len = own d h k.len := by
  obtain ⟨kd, num, text, keys⟩ := h
  unfold own trimH trimK
  simp only
  by_cases h3 : kd = 3
  · subst h3; simp
  by_cases h4 : kd = 4
  · subst h4; simp
  by_cases h6 : kd = 6
  · subst h6; simp [trim_len]
  · rw [if_neg h3, if_neg h4, if_neg h6]
    simp [plainH, h4, h6]
theorem wrongsF_trim : ∀ (f : F) (d : Nat), wrongsF d (trim f) = wrongsF d f := by
  intro f
  induction f with
  | nil => intro d; rfl
  | cons h k r ih1 ih2 =>
    intro d
    rw [trim_cons, wrongsF_cons, wrongsF_cons, ih2]
    have e : wrongs d (trimH h) (trimK h k) = wrongs d h k := by
      unfold wrongs
      simp only
      rw [own_trim, trimH_kind]
      by_cases h5 : 5 ≤ h.kind
      · rw [if_pos h5, if_pos h5]
        by_cases h56 : h.kind = 5 ∨ h.kind = 6
        · unfold trimK; rw [if_pos h56, ih1]
        · have h0 : own d h k.len ≠ 0 := by
            intro e
            have := own_zero e
            omega
          rw [if_pos h0, if_pos h0]
      · rw [if_neg h5, if_neg h5]
    rw [e]
theorem wrongs_trim (d : Nat) (h : Hd) (k : F) : wrongs d (trimH h) (trimK h k) = wrongs d h k := by
  have := wrongsF_trim (.cons h k .nil) d
  rw [trim_cons, wrongsF_cons, wrongsF_cons] at this
  by_cases e1 : wrongs d (trimH h) (trimK h k) = 0 <;> by_cases e2 : wrongs d h k = 0 <;> simp_all [trim, wrongsF]
theorem trimH_trim (h : Hd) : trimH (trimH h) = trimH h := by
  unfold trimH
  by_cases h3 : h.kind = 3
  · simp [h3]
  by_cases h4 : h.kind = 4
  · simp [h4]
  by_cases h6 : h.kind = 6
  · simp [h6]
  · simp [h3, h4, h6, plainH]
theorem trim_trim (f : F) : trim (trim f) = trim f := by
  induction f with
  | nil => rfl
  | cons h k r ih1 ih2 =>
    rw [trim_cons, trim_cons, trimH_trim, ih2]
    have : trimK (trimH h) (trimK h k) = trimK h k := by
      unfold trimK
      rw [trimH_kind]
      by_cases h5 : h.kind = 5 ∨ h.kind = 6
      · rw [if_pos h5, if_pos h5, ih1]
      · rw [if_neg h5, if_neg h5]
    rw [this]
theorem trimK_trim (h : Hd) (k : F) : trimK (trimH h) (trimK h k) = trimK h k := by
  unfold trimK
  rw [trimH_kind]
  by_cases h5 : h.kind = 5 ∨ h.kind = 6
  · rw [if_pos h5, if_pos h5, trim_trim]
  · rw [if_neg h5, if_neg h5]
/-- A head that fits into memory and has a number of 64 bits. -/
def Okh (h : Hd) : Prop := Fit h ∧ NumOk h
theorem All_and {P Q : Hd → Prop} {f : F} (h1 : f.All P) (h2 : f.All Q) : f.All fun h => P h ∧ Q h := by
  induction f with
  | nil => trivial
  | cons h k r ih1 ih2 => exact ⟨⟨h1.1, h2.1⟩, ih1 h1.2.1 h2.2.1, ih2 h1.2.2 h2.2.2⟩
theorem Okh.trim {h : Hd} (hk : Okh h) : Okh (trimH h) := by
  obtain ⟨⟨h1, h2⟩, h3, h4⟩ := hk
  unfold trimH
  split
  · exact ⟨⟨by simp, by simp⟩, h3, h4⟩
  · split
    · exact ⟨⟨h1, by simp⟩, (by decide : (-9223372036854775808 : Int) ≤ 0), (by decide : (0 : Int) ≤ 9223372036854775807)⟩
    · split
      · exact ⟨⟨by simp, h2⟩, (by decide : (-9223372036854775808 : Int) ≤ 0), (by decide : (0 : Int) ≤ 9223372036854775807)⟩
      · exact ⟨⟨by simp [plainH], by simp [plainH]⟩, (by decide : (-9223372036854775808 : Int) ≤ 0), (by decide : (0 : Int) ≤ 9223372036854775807)⟩
theorem All_trim {f : F} (h : f.All Okh) : (trim f).All Okh := by
  induction f with
  | nil => trivial
  | cons h0 k r ih1 ih2 =>
    refine ⟨h.1.trim, ?_, ih2 h.2.2⟩
    show (if h0.kind = 5 ∨ h0.kind = 6 then trim k else F.nil).All Okh
    split
    · exact ih1 h.2.1
    · trivial
theorem All_trimK {h : Hd} {k : F} (hk : k.All Okh) : (trimK h k).All Okh := by
  unfold trimK
  split
  · exact All_trim hk
  · trivial
theorem forms_at : ∀ {f : F} {i : Nat} {h : Hd} {k : F}, (toL f)[i]? = some (h, k) → (forms f)[i]? = some (form h k)
  | .nil, i, h, k, e => by simp [toL] at e
  | .cons h1 k1 r, 0, h, k, e => by simp [toL] at e; obtain ⟨rfl, rfl⟩ := e; rfl
  | .cons h1 k1 r, i + 1, h, k, e => by
    rw [forms, List.getElem?_cons_succ]
    exact forms_at (by simpa [toL] using e)
theorem wrongsF_at {d : Nat} {f : F} (hw : wrongsF d f = 0) {i : Nat} {h : Hd} {k : F} (e : (toL f)[i]? = some (h, k)) : wrongs d h k = 0 := by
  induction f generalizing i with
  | nil => simp [toL] at e
  | cons h1 k1 r _ ih =>
    obtain ⟨e1, e2⟩ := wrongsF_zero hw
    cases i with
    | zero => simp [toL] at e; obtain ⟨rfl, rfl⟩ := e; exact e1
    | succ i => exact ih e2 (by simpa [toL] using e)
theorem sumL_take (l : List (List UInt8)) (i : Nat) : sumL (l.take i) ≤ sumL l := by
  induction l generalizing i with
  | nil => simp
  | cons x r ih =>
    cases i with
    | zero => simp [sumL]
    | succ i => rw [List.take_succ_cons, sumL_cons, sumL_cons]; have := ih i; omega
theorem commas_take_le (l : List (List UInt8)) (i : Nat) : (commas (l.take i)).length ≤ (commas l).length := by
  rw [commas_len, commas_len, List.length_take]
  have := sumL_take l i
  omega
/-- A node's kind, whatever its keys' memory. -/
theorem node_kinds {st : Bool} {w : World} {S : Nat → Prop} {h : Hd} {k : F} {u : Value} (hv : TV (encN st) w S h k [u]) (h1 : trimH h = h) (h2 : trimK h k = k) :
    (∃ z : Int, u = .iface 152 (.int .i64 z) ∧ h = plainH z ∧ k = .nil ∧ z ≠ 3 ∧ z ≠ 4 ∧ z ≠ 5 ∧ z ≠ 6) ∨ (∃ z : Int, u = .iface 153 (.int .i64 z) ∧ h = ⟨3, z, [], []⟩ ∧ k = .nil) ∨ (∃ t : List UInt8, u = .iface 154 (.string ⟨t.toArray⟩) ∧ h = ⟨4, 0, t, []⟩ ∧ k = .nil) ∨
    (∃ A c us, u = .iface 158 (.slice A k.len c) ∧ h = plainH 5 ∧ trim k = k ∧ k.len ≤ 4398046511104 ∧ RdS w S 1 A k.len us ∧ TR (encN st) w S k us) ∨
    (∃ A c us A' c' ks, u = .iface 161 (.agg #[.slice A' ks.length c', .slice A k.len c]) ∧ h = ⟨6, 0, [], ks⟩ ∧ trim k = k ∧ k.len ≤ 4398046511104 ∧ ks.length ≤ 4398046511104 ∧ RdS w S 1 A k.len us ∧ TR (encN st) w S k us ∧ RdS w S 1 A' ks.length (tx ks)) := by
  obtain ⟨A, c, A', c', us, e, l1, ⟨l2, l3⟩, r1, r2, r3⟩ := hv
  simp only [encN, List.cons.injEq, and_true] at e
  obtain ⟨kd, num, text, keys⟩ := h
  unfold trimK at h2
  unfold nodeV at e
  simp only at e h2
  by_cases k3 : kd = 3
  · subst k3
    have h1' : (⟨3, num, [], []⟩ : Hd) = ⟨3, num, text, keys⟩ := h1
    exact .inr (.inl ⟨num, by simpa using e, h1'.symm, h2.symm⟩)
  by_cases k4 : kd = 4
  · subst k4
    have h1' : (⟨4, 0, text, []⟩ : Hd) = ⟨4, num, text, keys⟩ := h1
    exact .inr (.inr (.inl ⟨text, by simpa using e, h1'.symm, h2.symm⟩))
  by_cases k5 : kd = 5
  · subst k5
    have h1' : plainH 5 = ⟨5, num, text, keys⟩ := h1
    exact .inr (.inr (.inr (.inl ⟨A, c, us, by simpa using e, h1'.symm, h2, l1, r1, r2⟩)))
  by_cases k6 : kd = 6
  · subst k6
    have h1' : (⟨6, 0, [], keys⟩ : Hd) = ⟨6, num, text, keys⟩ := h1
    exact .inr (.inr (.inr (.inr ⟨A, c, us, A', c', keys, by simpa using e, h1'.symm, h2, l1, l2, r1, r2, r3⟩)))
  · rw [if_neg k3, if_neg k4, if_neg k5, if_neg k6] at e
    have h1' : plainH kd = ⟨kd, num, text, keys⟩ := by
      have h3 := h1
      unfold trimH at h3
      rw [if_neg k3, if_neg k4, if_neg k6] at h3
      exact h3
    exact .inl ⟨kd, e, h1'.symm, by rw [if_neg (by omega)] at h2; exact h2.symm, k3, k4, k5, k6⟩
/-! ### The builder beside other memory -/
theorem bd_cells {b : Nat} {l : List UInt8} {w w' : World} (h : Bd b l w) (hk : ∀ (k : Nat) (cs : Array Value) (t : TypeId) (fz : Nat × Nat), w.heap[k]? = some (Obj.cells cs t fz) → w'.heap[k]? = w.heap[k]?) : Bd b l w' := by
  have hc : ∀ p, Lib.BuilderAtF 92 5 b b p (Lib.byteCells l) w → Lib.BuilderAtF 92 5 b b p (Lib.byteCells l) w' := by
    rintro p ⟨hB, v, hb, ⟨hl, ho⟩, hne⟩
    refine ⟨hB, v, (hk b _ _ _ hb).trans hb, ⟨hl, ?_⟩, hne⟩
    rcases ho with ho | ⟨g, cap, cur, fz, rfl, hg, hgg, r⟩
    · exact .inl ho
    · exact .inr ⟨g, cap, cur, fz, rfl, hg, (hk g _ _ _ hgg).trans hgg, r⟩
  rcases h with h | h
  · exact .inl (hc _ h)
  · exact .inr (hc _ h)
section
variable {b : Nat} {w w1 w2 : World}
theorem others_step {e : TypeId} {p : Option Nat} {a : World} (h : Lib.OthersKept e p a w1) (hk : ∀ k, k < a.heap.size → w2.heap[k]? = w1.heap[k]?) : Lib.OthersKept e p a w2 :=
  fun k o hko hb ho => (hk k (Array.getElem?_eq_some_iff.1 hko).1).trans (h k o hko hb ho)
theorem keep_step (h : KeepB b w w1) (hb : Below w1.heap.size w1 w2) (hs : w.heap.size ≤ w1.heap.size) (hbs : b ≤ w1.heap.size) : KeepB b w w2 :=
  ⟨h.below.trans (hb.mono hbs), others_step h.others fun k hk => hb.block k (by omega)⟩
theorem keep_size (h : KeepB b w w1) : w.heap.size ≤ w1.heap.size := h.below.size
theorem keep_alloc (h : KeepB b w w1) (hbs : b ≤ w1.heap.size) (o : Obj) : KeepB b w (w1.alloc o) := keep_step h ((Below.refl _ _).alloc (Nat.le_refl _) _) (keep_size h) hbs
theorem keep_grown {g : Nat} (h : KeepB b w w1) (hg : w1.grownBy w2 (some g)) (hs : w.heap.size ≤ g) (hbs : b ≤ g) (hb1 : b ≤ w1.heap.size) : KeepB b w w2 :=
  ⟨Below.grown h.below hg hb1 (fun k hk => by injection hk with hk; omega), others_step h.others fun k hk => hg.block k (by have := keep_size h; omega) (fun e => by injection e with e; omega)⟩
theorem blk_keep {g : Nat} {t : TypeId} {cs : Array Value} (h : Blk w g t cs) (hk : KeepB b w w1) (ht : t ≠ 5) (hg : g ≠ b) : Blk w1 g t cs :=
  hk.others g _ h (fun e => hg (by injection e)) (fun c fz e => by injection e with _ e2; exact ht e2)
theorem own_keep {base size n : Nat} {e : TypeId} {v : Value} {xs : List Value} (h : w.ownsRow base e size v n xs) (hk : KeepB b w w1) (he : e ≠ 5) (hg : v.ownBlock ≠ some b) : w1.ownsRow base e size v n xs := by
  refine ⟨h.1, ?_⟩
  rcases h.2 with hn | ⟨g, cap, cur, rfl, hB, hgg, rest⟩
  · exact .inl hn
  · exact .inr ⟨g, cap, cur, rfl, hB, hk.others g _ hgg (fun e => hg (by injection e with e; simp [Value.ownBlock, e])) (fun c fz e1 => by injection e1 with _ e2; exact he e2), rest⟩
theorem Idx.keep {bm N : Nat} {ks : List (List UInt8)} (h : Idx w bm N ks) (hk : KeepB b w w1) (hb : bm ≠ b) : Idx w1 bm N ks := by
  obtain ⟨D, ⟨es, clock, hm, r⟩, r2⟩ := h
  exact ⟨D, ⟨es, clock, hk.others bm _ hm (fun e => hb (by injection e)) (fun c fz e => by cases e), r⟩, r2⟩
theorem bd_map {l : List UInt8} {bm N : Nat} {ks : List (List UInt8)} (h : Bd b l w) (hi : Idx w bm N ks) (hg : w.grownBy w1 (some bm)) : Bd b l w1 := by
  obtain ⟨D, ⟨es, clock, hm, r⟩, r2⟩ := hi
  refine bd_cells h fun k cs t fz hk => hg.block k (Array.getElem?_eq_some_iff.1 hk).1 (fun e => ?_)
  injection e with e
  subst e
  rw [hm] at hk
  cases hk
theorem blk_map {g : Nat} {t : TypeId} {cs : Array Value} {bm N : Nat} {ks : List (List UInt8)} (h : Blk w g t cs) (hi : Idx w bm N ks) (hg : w.grownBy w1 (some bm)) : Blk w1 g t cs := by
  obtain ⟨D, ⟨es, clock, hm, r⟩, r2⟩ := hi
  refine (hg.block g h.lt (fun e => ?_)).trans h
  injection e with e
  subst e
  unfold Blk at h
  rw [hm] at h
  cases h
theorem St.keep (h : St w) (hk : KeepB b w w1) (hb : 9 ≤ b) : St w1 := h.kept (keep_size hk) fun k hk2 => hk.below.block k (by omega)
end
end Js
end Go.Proofs.YtlfeddgpfaigkaaGreatDoor
