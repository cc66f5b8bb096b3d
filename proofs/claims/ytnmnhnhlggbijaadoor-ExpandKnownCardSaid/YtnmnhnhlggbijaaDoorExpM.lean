/-
  Words for memory when a text is expanded: what is kept but for some blocks; pieces of a text as they lie in memory; a list of pieces of the call's own.
-/
import Derived.Test.YtnmnhnhlggbijaaDoorMem
import Derived.Test.YtnmnhnhlggbijaaDoorExpT
namespace Go.Proofs.YtnmnhnhlggbijaaDoor
open Go.RowKit
namespace Exp
open T

/-- Below block B all is as it was, but for the blocks of X. -/
structure Kp (B : Nat) (X : Nat → Prop) (w w' : World) : Prop where
  os : w'.os = w.os
  tape : w'.tape = w.tape
  output : w'.output = w.output
  size : w.heap.size ≤ w'.heap.size
  block : ∀ k, k < B → ¬ X k → w'.heap[k]? = w.heap[k]?
section
variable {B B' : Nat} {X Y : Nat → Prop} {w w' a : World}
theorem Kp.refl (B : Nat) (X : Nat → Prop) (w : World) : Kp B X w w := ⟨rfl, rfl, rfl, Nat.le_refl _, fun _ _ _ => rfl⟩
theorem Kp.trans (h : Kp B X a w) (k : Kp B X w w') : Kp B X a w' :=
  ⟨k.os.trans h.os, k.tape.trans h.tape, k.output.trans h.output, Nat.le_trans h.size k.size, fun i hi hx => (k.block i hi hx).trans (h.block i hi hx)⟩
theorem Kp.mono (h : Kp B X w w') (hB : B' ≤ B) (hX : ∀ k, k < B' → X k → Y k) : Kp B' Y w w' :=
  ⟨h.os, h.tape, h.output, h.size, fun k hk hy => h.block k (Nat.lt_of_lt_of_le hk hB) (fun hx => hy (hX k hk hx))⟩
theorem Kp.alloc (h : Kp B X a w) (hB : B ≤ w.heap.size) (o : Obj) : Kp B X a (w.alloc o) :=
  h.trans ⟨rfl, rfl, rfl, by simp, fun k hk _ => Below.heap_alloc w o k (by omega)⟩
theorem Kp.setCell (h : Kp B X a w) {p : Addr} (hp : B ≤ p.block ∨ X p.block) (u : Value) : Kp B X a (w.setCell p u) :=
  h.trans ⟨rfl, rfl, rfl, by simp, fun k hk hx => Below.heap_setCell w p u k (fun e => by subst e; rcases hp with hp | hp; omega; exact hx hp)⟩
theorem Kp.drewN (h : Kp B X a w) (n : Nat) : Kp B X a (w.drewN n) := ⟨h.os, h.tape, h.output, h.size, h.block⟩
theorem Kp.drew (h : Kp B X a w) : Kp B X a w.drew := ⟨h.os, h.tape, h.output, h.size, h.block⟩
theorem Kp.below (h : Kp B (fun _ => False) w w') : Below B w w' := ⟨h.os, h.tape, h.output, h.size, fun k hk => h.block k hk id⟩
theorem Kp.of_below (h : Below B w w') : Kp B X w w' := ⟨h.os, h.tape, h.output, h.size, fun k hk _ => h.block k hk⟩
theorem Kp.grown {row : Option Nat} (h : Kp B X a w) (hg : w.grownBy w' row) (hB : B ≤ w.heap.size) (hr : ∀ k, row = some k → B ≤ k ∨ X k) : Kp B X a w' :=
  h.trans ⟨hg.os, hg.tape, hg.output, hg.size, fun k hk hx => hg.block k (by omega) (fun e => by rcases hr k e.symm with h1 | h1; omega; exact hx h1)⟩
theorem Kp.cell (h : Kp B X w w') {p : Addr} (hp : p.block < B) (hx : ¬ X p.block) : w'.cell? p = w.cell? p := World.cell?_of_block (h.block _ hp hx)
theorem Kp.blk {g : Nat} {t : TypeId} {cs : Array Value} (h : Kp B X w w') (hb : Blk w g t cs) (hg : g < B) (hx : ¬ X g) : Blk w' g t cs := (h.block g hg hx).trans hb
end

/-- How a piece lies in so many cells. -/
structure Enc where
  sz : Nat
  L : List UInt8 → List Value
  V : List UInt8 → UInt8 → Option Addr → Nat → Nat → List Value
  lenL : ∀ u, (L u).length = sz
  lenV : ∀ n o A m c, (V n o A m c).length = sz
  oneL : ∀ u, ∀ x ∈ L u, x.oneCell' = true
  oneV : ∀ n o A m c, ∀ x ∈ V n o A m c, x.oneCell' = true
/-- Pieces as they lie in memory (what hangs below them in the blocks of S). -/
inductive Pcs (E : Enc) (w : World) (S : Nat → Prop) : T → List Value → Nat → Prop
  | nil : Pcs E w S .nil [] 0
  | lit (u : List UInt8) {t : T} {vs : List Value} {k : Nat} : Pcs E w S t vs k → Pcs E w S (lits u t) (E.L u ++ vs) (k + 1)
  | var (n : List UInt8) (o : UInt8) {A : Option Addr} {m c : Nat} {us : List Value} {i t : T} {vs : List Value} {k : Nat} :
      n ≠ [] → m ≤ 4398046511104 → (0 < m → ∃ ad, A = some ad ∧ S ad.block ∧ ∀ j u, us[j]? = some u → w.cell? (ad.add j) = some u) → Pcs E w S i us m → Pcs E w S t vs k → Pcs E w S (.var n o i t) (E.V n o A m c ++ vs) (k + 1)
section
variable {E : Enc} {w w' : World} {S S' : Nat → Prop} {t t' : T} {vs vs' : List Value} {k k' : Nat}
theorem Pcs.len (h : Pcs E w S t vs k) : vs.length = k * E.sz := by
  induction h with
  | nil => simp
  | lit u _ ih => rw [List.length_append, ih, E.lenL, Nat.succ_mul]; omega
  | var n o _ _ _ _ _ _ ih => rw [List.length_append, ih, E.lenV, Nat.succ_mul]; omega
theorem Pcs.one (h : Pcs E w S t vs k) : ∀ x ∈ vs, x.oneCell' = true := by
  induction h with
  | nil => simp
  | lit u _ ih => intro x hx; rcases List.mem_append.1 hx with h | h; exact E.oneL _ x h; exact ih x h
  | var n o _ _ _ _ _ _ ih => intro x hx; rcases List.mem_append.1 hx with h | h; exact E.oneV _ _ _ _ _ x h; exact ih x h
theorem Pcs.kept (h : Pcs E w S t vs k) (hk : ∀ p : Addr, S p.block → w'.cell? p = w.cell? p) : Pcs E w' S t vs k := by
  induction h with
  | nil => exact .nil
  | lit u _ ih => exact .lit u ih
  | var n o hn hm hA _ _ ih1 ih2 =>
    exact .var n o hn hm (fun h => by
      obtain ⟨ad, e, hS, hc⟩ := hA h
      exact ⟨ad, e, hS, fun j u hu => (hk _ (by rw [block_of_add]; exact hS)).trans (hc j u hu)⟩) ih1 ih2
theorem Pcs.more (h : Pcs E w S t vs k) (hS : ∀ b, S b → S' b) : Pcs E w S' t vs k := by
  induction h with
  | nil => exact .nil
  | lit u _ ih => exact .lit u ih
  | var n o hn hm hA _ _ ih1 ih2 =>
    exact .var n o hn hm (fun h => by
      obtain ⟨ad, e, h1, hc⟩ := hA h
      exact ⟨ad, e, hS _ h1, hc⟩) ih1 ih2
theorem Pcs.app (h : Pcs E w S t vs k) (h' : Pcs E w S t' vs' k') : Pcs E w S (t.app t') (vs ++ vs') (k + k') := by
  induction h with
  | nil => simpa [T.app] using h'
  | lit u _ ih => rw [lits_app, List.append_assoc, Nat.add_right_comm]; exact .lit u ih
  | var n o hn hm hA h1 _ _ ih2 => rw [T.app, List.append_assoc, Nat.add_right_comm]; exact .var n o hn hm hA h1 ih2

/-- A list of pieces of the call's own, from block B on. -/
def PL (E : Enc) (w : World) (B : Nat) (e : TypeId) (v : Value) (t : T) (n : Nat) : Prop :=
  ∃ (S : Nat → Prop) (vs : List Value), w.ownsRow B e E.sz v n vs ∧ Pcs E w S t vs n ∧ ∀ b, S b → B ≤ b ∧ b < w.heap.size ∧ v.ownBlock ≠ some b
theorem PL.nil (E : Enc) (w : World) (B : Nat) (e : TypeId) : PL E w B e (.slice none 0 0) .nil 0 :=
  ⟨fun _ => False, [], World.ownsRow_nil _ _ _ _, .nil, fun _ h => h.elim⟩
variable {B B' : Nat} {e : TypeId} {v v' : Value} {n m : Nat}
theorem own_lt {base size n : Nat} {xs : List Value} (h : w.ownsRow base e size v n xs) {b : Nat} (hb : v.ownBlock = some b) : base ≤ b ∧ b < w.heap.size := h.lt b hb
theorem own_at {base size n : Nat} {xs : List Value} (h : w.ownsRow base e size v n xs) (hk : ∀ b, v.ownBlock = some b → w'.heap[b]? = w.heap[b]?) : w'.ownsRow base e size v n xs := by
  refine ⟨h.1, ?_⟩
  rcases h.2 with hn | ⟨g, cap, cur, rfl, hB, hgg, rest⟩
  · exact .inl hn
  · exact .inr ⟨g, cap, cur, rfl, hB, (hk g rfl).trans hgg, rest⟩
theorem PL.kept (h : PL E w B e v t n) (hk : ∀ b, B ≤ b → b < w.heap.size → w'.heap[b]? = w.heap[b]?) (hs : w.heap.size ≤ w'.heap.size) : PL E w' B e v t n := by
  obtain ⟨S, vs, ho, hp, hS⟩ := h
  refine ⟨S, vs, own_at ho fun b hb => ?_, hp.kept fun p hp => ?_, fun b hb => ?_⟩
  · have := own_lt ho hb; exact hk b this.1 this.2
  · obtain ⟨h1, h2, _⟩ := hS _ hp; exact World.cell?_of_block (hk _ h1 h2)
  · obtain ⟨h1, h2, h3⟩ := hS b hb; exact ⟨h1, by omega, h3⟩
theorem PL.setCell (h : PL E w B e v t n) {p : Addr} (hp : p.block < B) (u : Value) : PL E (w.setCell p u) B e v t n :=
  h.kept (fun b hb _ => Below.heap_setCell w p u b (by omega)) (by simp)
theorem PL.alloc (h : PL E w B e v t n) (o : Obj) : PL E (w.alloc o) B e v t n :=
  h.kept (fun b _ hb => Below.heap_alloc w o b hb) (by simp)
theorem PL.drewN (h : PL E w B e v t n) (k : Nat) : PL E (w.drewN k) B e v t n := h.kept (fun _ _ _ => rfl) (Nat.le_refl _)
theorem PL.drew (h : PL E w B e v t n) : PL E w.drew B e v t n := h.kept (fun _ _ _ => rfl) (Nat.le_refl _)
theorem PL.form (h : PL E w B e v t n) : ∃ A c, v = .slice A n c := by
  obtain ⟨S, vs, ho, _⟩ := h
  obtain ⟨A, c, h, _⟩ := own_readsN ho
  exact ⟨A, c, h⟩
theorem PL.less (h : PL E w B e v t n) (hB : B' ≤ B) : PL E w B' e v t n := by
  obtain ⟨S, vs, ho, hp, hS⟩ := h
  refine ⟨S, vs, ⟨ho.1, ?_⟩, hp, fun b hb => ⟨by have := (hS b hb).1; omega, (hS b hb).2⟩⟩
  rcases ho.2 with hn | ⟨g, cap, cur, rfl, hb, rest⟩
  · exact .inl hn
  · exact .inr ⟨g, cap, cur, rfl, by omega, rest⟩
theorem PL.own (h : PL E w B e v t n) {b : Nat} (hb : v.ownBlock = some b) : B ≤ b ∧ b < w.heap.size := by
  obtain ⟨S, vs, ho, _⟩ := h
  exact own_lt ho hb
/-- Below the heap's end all is kept: the list too. -/
theorem PL.kp {X : Nat → Prop} {C : Nat} (h : PL E w B e v t n) (hk : Kp C X w w') (hC : w.heap.size ≤ C) (hX : ∀ b, B ≤ b → b < w.heap.size → ¬ X b) : PL E w' B e v t n :=
  h.kept (fun b h1 h2 => hk.block b (by omega) (hX b h1 h2)) hk.size
/-- Pieces laid behind. -/
theorem PL.push {news : List Value} {S2 : Nat → Prop} {t2 : T} {xs : List Value} {S : Nat → Prop} (hp : Pcs E w S t xs n) (hS : ∀ b, S b → B ≤ b ∧ b < w.heap.size ∧ v.ownBlock ≠ some b)
    (hp2 : Pcs E w S2 t2 news m) (hS2 : ∀ b, S2 b → B ≤ b ∧ b < w.heap.size ∧ v.ownBlock ≠ some b)
    (ho' : w'.ownsRow B e E.sz v' (n + m) (xs ++ news)) (hg : w.grownBy w' v.ownBlock) (hl : v'.ownBlock = v.ownBlock ∨ v'.ownBlock = some w.heap.size) : PL E w' B e v' (t.app t2) (n + m) := by
  have hU : ∀ b, (S b ∨ S2 b) → B ≤ b ∧ b < w.heap.size ∧ v.ownBlock ≠ some b := fun b hb => hb.elim (hS b) (hS2 b)
  refine ⟨fun b => S b ∨ S2 b, xs ++ news, ho', ((hp.more fun b h => .inl h).app (hp2.more fun b h => .inr h)).kept fun p hp => ?_, fun b hb => ?_⟩
  · obtain ⟨h1, h2, h3⟩ := hU _ hp
    exact World.cell?_of_block (hg.block _ h2 (fun e => h3 e.symm))
  · obtain ⟨h1, h2, h3⟩ := hU _ hb
    refine ⟨h1, by have := hg.size; omega, fun e => ?_⟩
    rcases hl with h | h
    · exact h3 (h.symm.trans e)
    · rw [h] at e; cases e; omega
/-- A list of pieces as another's part. -/
theorem PL.part {v2 : Value} {t2 : T} (h : PL E w B' e v2 t2 m) (nm : List UInt8) (o : UInt8) (hn : nm ≠ []) (hm : m ≤ 4398046511104) : ∃ A c S2, v2 = .slice A m c ∧ Pcs E w S2 (.var nm o t2 .nil) (E.V nm o A m c) 1 ∧ ∀ b, S2 b → B' ≤ b ∧ b < w.heap.size := by
  obtain ⟨S, vs, ho, hp, hS⟩ := h
  rcases ho.2 with ⟨rfl, rfl⟩ | ⟨g, cap, cur, rfl, hB, hgg, hnc, hcap, hsz, htk⟩
  · refine ⟨none, 0, S, rfl, ?_, fun b hb => ⟨(hS b hb).1, (hS b hb).2.1⟩⟩
    have := Pcs.var (E := E) (w := w) (S := S) nm o (A := none) (c := 0) hn hm (fun h => absurd h (by omega)) hp .nil
    simpa using this
  · refine ⟨some ⟨g, 0, none⟩, cap, fun b => S b ∨ b = g, rfl, ?_, fun b hb => ?_⟩
    · have := Pcs.var (E := E) (w := w) (S := fun b => S b ∨ b = g) nm o (A := some ⟨g, 0, none⟩) (c := cap) hn hm (fun h => ⟨_, rfl, .inr rfl, ho.cells (g := g) rfl⟩) (hp.more fun b h => .inl h) .nil
      simpa using this
    · rcases hb with hb | rfl
      · exact ⟨(hS b hb).1, (hS b hb).2.1⟩
      · exact own_lt ho rfl
end
end Exp
end Go.Proofs.YtnmnhnhlggbijaaDoor
