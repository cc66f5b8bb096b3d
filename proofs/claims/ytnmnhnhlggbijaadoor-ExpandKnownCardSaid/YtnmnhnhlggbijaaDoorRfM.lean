/-
  Words for memory when the reference reads a text: what is kept but for the reader and rows of texts; its pieces as they lie in memory; a list of them.
-/
import Derived.Test.YtnmnhnhlggbijaaDoorExpN
import Derived.Test.YtnmnhnhlggbijaaDoorExpM
import Derived.Test.YtnmnhnhlggbijaaDoorTx
import Derived.Test.YtnmnhnhlggbijaaDoorKit
import Derived.OwnWalk
namespace Go.Proofs.YtnmnhnhlggbijaaDoor
open Go.RowKit
namespace Exp
open T

/-- Block k is no row of texts. -/
def NT (w : World) (k : Nat) : Prop := ∀ cs fr, w.heap[k]? ≠ some (.cells cs 9 fr)
/-- All that was there is as it was, but for the reader and what lies behind it in rows of texts. -/
structure Kq (rb : Nat) (w w' : World) : Prop where
  os : w'.os = w.os
  tape : w'.tape = w.tape
  output : w'.output = w.output
  size : w.heap.size ≤ w'.heap.size
  block : ∀ k, k < w.heap.size → k ≠ rb → (k < rb ∨ NT w k) → w'.heap[k]? = w.heap[k]?
section
variable {rb : Nat} {w w' a : World}
theorem NT.of_eq {k : Nat} (h : NT w k) (e : w'.heap[k]? = w.heap[k]?) : NT w' k := fun cs fr => by rw [e]; exact h cs fr
theorem NT.blk {k : Nat} {t : TypeId} {cs : Array Value} (h : Blk w k t cs) (ht : t ≠ 9) : NT w k := fun cs' fr e => by
  unfold Blk at h; rw [h] at e; injection e with e; injection e with _ e2; exact ht e2
theorem Kq.refl (rb : Nat) (w : World) : Kq rb w w := ⟨rfl, rfl, rfl, Nat.le_refl _, fun _ _ _ _ => rfl⟩
theorem Kq.trans {w1 : World} (h : Kq rb a w) (k : Kq rb w w1) : Kq rb a w1 :=
  ⟨k.os.trans h.os, k.tape.trans h.tape, k.output.trans h.output, Nat.le_trans h.size k.size, fun i hi hx ht =>
    (k.block i (Nat.lt_of_lt_of_le hi h.size) hx (ht.imp id fun hn => hn.of_eq (h.block i hi hx (.inr hn)))).trans (h.block i hi hx ht)⟩
theorem Kq.alloc (h : Kq rb a w) (o : Obj) : Kq rb a (w.alloc o) :=
  h.trans ⟨rfl, rfl, rfl, by simp, fun k hk _ _ => Below.heap_alloc w o k hk⟩
theorem Kq.setCell (h : Kq rb a w) {p : Addr} (hp : a.heap.size ≤ p.block ∨ p.block = rb) (u : Value) : Kq rb a (w.setCell p u) :=
  ⟨h.os, h.tape, h.output, by simpa using h.size, fun k hk hx ht => (Below.heap_setCell w p u k (fun e => by subst e; rcases hp with hp | hp; omega; exact hx hp)).trans (h.block k hk hx ht)⟩
theorem Kq.drewN (h : Kq rb a w) (n : Nat) : Kq rb a (w.drewN n) := ⟨h.os, h.tape, h.output, h.size, h.block⟩
theorem Kq.drew (h : Kq rb a w) : Kq rb a w.drew := ⟨h.os, h.tape, h.output, h.size, h.block⟩
theorem Kq.below (h : Kq rb w w') (hr : rb ≤ w.heap.size) : Below rb w w' := ⟨h.os, h.tape, h.output, h.size, fun k hk => h.block k (by omega) (by omega) (.inl hk)⟩
/-- A list of one's own grows that did not lie there at first, or one of texts behind the reader. -/
theorem Kq.grown {row : Option Nat} (h : Kq rb a w) (hg : w.grownBy w' row) (hr : ∀ k, row = some k → a.heap.size ≤ k ∨ (rb ≤ k ∧ ¬ NT w k)) : Kq rb a w' :=
  ⟨hg.os.trans h.os, hg.tape.trans h.tape, hg.output.trans h.output, Nat.le_trans h.size hg.size, fun k hk hx ht => (hg.block k (Nat.lt_of_lt_of_le hk h.size) (fun e => by
    rcases hr k e.symm with h1 | ⟨h1, h2⟩
    · omega
    · rcases ht with ht | ht
      · omega
      · exact h2 (ht.of_eq (h.block k hk hx (.inr ht))))).trans (h.block k hk hx ht)⟩
theorem Kq.blk {g : Nat} {t : TypeId} {cs : Array Value} (h : Kq rb w w') (hb : Blk w g t cs) (hx : g ≠ rb) (ht : t ≠ 9) : Blk w' g t cs := (h.block g hb.lt hx (.inr (NT.blk hb ht))).trans hb
end
theorem own_nt {w : World} {base : Nat} {e : TypeId} {size n : Nat} {v : Value} {xs : List Value} (h : w.ownsRow base e size v n xs) (ht : e ≠ 9) {b : Nat} (hb : v.ownBlock = some b) : NT w b := by
  rcases h.2 with ⟨rfl, _⟩ | ⟨g, cap, cur, rfl, _, hh, _⟩
  · simp [Value.ownBlock] at hb
  · have : g = b := by simpa [Value.ownBlock] using hb
    subst this
    exact NT.blk (t := e) hh ht
theorem own_t {w : World} {base : Nat} {size n : Nat} {v : Value} {xs : List Value} (h : w.ownsRow base 9 size v n xs) {b : Nat} (hb : v.ownBlock = some b) : ¬ NT w b := by
  rcases h.2 with ⟨rfl, _⟩ | ⟨g, cap, cur, rfl, _, hh, _⟩
  · simp [Value.ownBlock] at hb
  · have : g = b := by simpa [Value.ownBlock] using hb
    subst this
    exact fun hn => hn _ _ hh

def litR (u : List UInt8) : List Value := [.string ⟨u.toArray⟩, .string ⟨#[]⟩, .int .u8 0, .slice none 0 0]
def varR (n : List UInt8) (o : UInt8) (A : Option Addr) (m c : Nat) : List Value := [.string ⟨#[]⟩, .string ⟨n.toArray⟩, .int .u8 o.toNat, .slice A m c]
/-- Pieces as the reference lays them. -/
def encR : Enc where
  sz := 4
  L u := litR u
  V n o A m c := varR n o A m c
  lenL _ := rfl
  lenV _ _ _ _ _ := rfl
  oneL u x hx := by simp [litR] at hx; rcases hx with rfl | rfl | rfl | rfl <;> rfl
  oneV n o A m c x hx := by simp [varR] at hx; rcases hx with rfl | rfl | rfl | rfl <;> rfl
theorem infoPieceR : (Tryd.prog.info? 74).map (fun i => (i.zero, i.size, i.bytes)) = some (some (.agg #[.string .empty, .string .empty, .int .u8 0, .slice none 0 0]), 4, 64) := by kernel_rfl
/-- A list of the reference's pieces, of the call's own. -/
def RL (w : World) (B : Nat) (v : Value) (t : T) (n : Nat) : Prop :=
  ∃ (S : Nat → Prop) (vs : List Value), w.ownsRow B 74 4 v n vs ∧ Pcs encR w S t vs n ∧ ∀ b, S b → B ≤ b ∧ b < w.heap.size ∧ v.ownBlock ≠ some b ∧ NT w b
section
variable {rb B B' : Nat} {w w' : World} {v v' : Value} {t : T} {n m : Nat}
theorem RL.nil (w : World) (B : Nat) : RL w B (.slice none 0 0) .nil 0 := ⟨fun _ => False, [], World.ownsRow_nil _ _ _ _, .nil, fun _ h => h.elim⟩
theorem RL.form (h : RL w B v t n) : ∃ A c, v = .slice A n c := by
  obtain ⟨S, vs, ho, _⟩ := h
  obtain ⟨A, c, h, _⟩ := own_readsN ho
  exact ⟨A, c, h⟩
theorem RL.lt (h : RL w B v t n) {b : Nat} (hb : v.ownBlock = some b) : B ≤ b ∧ b < w.heap.size := by obtain ⟨S, vs, ho, _⟩ := h; exact own_lt ho hb
theorem RL.kept (h : RL w B v t n) (hk : ∀ b, B ≤ b → b < w.heap.size → NT w b → w'.heap[b]? = w.heap[b]?) (hs : w.heap.size ≤ w'.heap.size) : RL w' B v t n := by
  obtain ⟨S, vs, ho, hp, hS⟩ := h
  refine ⟨S, vs, own_at ho fun b hb => ?_, hp.kept fun p hp => ?_, fun b hb => ?_⟩
  · have := own_lt ho hb; exact hk b this.1 this.2 (own_nt ho (by decide) hb)
  · obtain ⟨h1, h2, _, h4⟩ := hS _ hp; exact World.cell?_of_block (hk _ h1 h2 h4)
  · obtain ⟨h1, h2, h3, h4⟩ := hS b hb; exact ⟨h1, by omega, h3, h4.of_eq (hk b h1 h2 h4)⟩
theorem RL.kq (h : RL w B v t n) (hk : Kq rb w w') (hB : rb < B) : RL w' B v t n := h.kept (fun b h1 h2 h3 => hk.block b h2 (by omega) (.inr h3)) hk.size
theorem RL.alloc (h : RL w B v t n) (o : Obj) : RL (w.alloc o) B v t n := h.kept (fun b _ hb _ => Below.heap_alloc w o b hb) (by simp)
theorem RL.drewN (h : RL w B v t n) (k : Nat) : RL (w.drewN k) B v t n := h.kept (fun _ _ _ _ => rfl) (Nat.le_refl _)
theorem RL.less (h : RL w B v t n) (hB : B' ≤ B) : RL w B' v t n := by
  obtain ⟨S, vs, ho, hp, hS⟩ := h
  refine ⟨S, vs, ⟨ho.1, ?_⟩, hp, fun b hb => ⟨by have := (hS b hb).1; omega, (hS b hb).2⟩⟩
  rcases ho.2 with hn | ⟨g, cap, cur, rfl, hb, rest⟩
  · exact .inl hn
  · exact .inr ⟨g, cap, cur, rfl, by omega, rest⟩
/-- Pieces of a call, kept. -/
theorem Pcs.kq {S : Nat → Prop} {vs : List Value} {C : Nat} (h : Pcs encR w S t vs n) (hk : Kq rb w w') (hC : rb < C) (hS : ∀ b, S b → C ≤ b ∧ b < w.heap.size ∧ NT w b) : Pcs encR w' S t vs n ∧ ∀ b, S b → C ≤ b ∧ b < w'.heap.size ∧ NT w' b := by
  refine ⟨h.kept fun p hp => ?_, fun b hb => ?_⟩
  · obtain ⟨h1, h2, h3⟩ := hS _ hp; exact World.cell?_of_block (hk.block _ h2 (by omega) (.inr h3))
  · obtain ⟨h1, h2, h3⟩ := hS b hb; exact ⟨h1, Nat.lt_of_lt_of_le h2 hk.size, h3.of_eq (hk.block _ h2 (by omega) (.inr h3))⟩
/-- Pieces laid behind a list. -/
theorem wpList_pushR {w : World} {ops : Array Oper} {rest : List Oper} {o : Oper} {a : Act} {Q : Exit → Act → World → Prop} (hgd : o.guard = none) (s x : Operand) (ho : o.op = .call { callee := .builtin .append, args := #[s, x], argTypes := #[41, 41] })
    (B B' rb : Nat) (v : Value) (t : T) (n : Nat) (w0 : World) (hs : a.eval s = v) (hP : RL w B v t n) (hK : Kq rb w0 w) (hB0 : w0.heap.size ≤ B)
    (A : Option Addr) (m c : Nat) (news : List Value) (hx : a.eval x = .slice A m c) (hr : Reads w B' 4 A m news) (S2 : Nat → Prop) (t2 : T) (hp2 : Pcs encR w S2 t2 news m) (hS2 : ∀ b, S2 b → B ≤ b ∧ b < w.heap.size ∧ v.ownBlock ≠ some b ∧ NT w b)
    (hn : n + m ≤ 2199023255552) (hB : B ≤ w.heap.size)
    (h : ∀ v' w', RL w' B v' (t.app t2) (n + m) → Kq rb w0 w' → w.grownBy w' v.ownBlock → (∀ b, v.ownBlock = some b → B ≤ b ∧ NT w b) → wpList Tryd.prog ops Q rest (a.put o.dst v') w') : wpList Tryd.prog ops Q (o :: rest) a w := by
  obtain ⟨i0, hi, hz0, hz1, hz2⟩ := info_parts infoPieceR
  obtain ⟨S, vs, hown, hp, hS⟩ := hP
  refine wpList_append_any (P := Tryd.prog) w hgd s x 41 ho B 74 i0 _ 4 64 Tryd.underlying41 hi hz0 hz1 hz2 rfl (by decide) v n vs hs hown B' A m c news hx hr hp2.one (by unfold maxLen; omega) (by omega) hB fun v' w' h1 h2 h3 => h v' w' ?_ ?_ h2 ?_
  · have hU : ∀ b, (S b ∨ S2 b) → B ≤ b ∧ b < w.heap.size ∧ v.ownBlock ≠ some b ∧ NT w b := fun b hb => hb.elim (hS b) (hS2 b)
    refine ⟨fun b => S b ∨ S2 b, vs ++ news, h1, ((hp.more fun b h => .inl h).app (hp2.more fun b h => .inr h)).kept fun p hp => ?_, fun b hb => ?_⟩
    · obtain ⟨h4, h5, h6, _⟩ := hU _ hp
      exact World.cell?_of_block (h2.block _ h5 (fun e => h6 e.symm))
    · obtain ⟨h4, h5, h6, h7⟩ := hU _ hb
      refine ⟨h4, by have := h2.size; omega, fun e => ?_, h7.of_eq (h2.block _ h5 (fun e => h6 e.symm))⟩
      rcases h3 with h | h
      · exact h6 (h.symm.trans e)
      · rw [h] at e; cases e; omega
  · exact hK.grown h2 (fun k hk => .inl (by have := (hown.lt k hk).1; omega))
  · exact fun b hb => ⟨(hown.lt b hb).1, own_nt hown (by decide) hb⟩
/-- A list of pieces as another's part. -/
theorem RL.part (h : RL w B v t m) (nm : List UInt8) (o : UInt8) (hn : nm ≠ []) (hm : m ≤ 4398046511104) : ∃ A c S2, v = .slice A m c ∧ Pcs encR w S2 (.var nm o t .nil) (varR nm o A m c) 1 ∧ ∀ b, S2 b → B ≤ b ∧ b < w.heap.size ∧ NT w b := by
  obtain ⟨S, vs, ho, hp, hS⟩ := h
  rcases ho.2 with ⟨rfl, rfl⟩ | ⟨g, cap, cur, rfl, hB, hgg, hnc, hcap, hsz, htk⟩
  · refine ⟨none, 0, S, rfl, ?_, fun b hb => ⟨(hS b hb).1, (hS b hb).2.1, (hS b hb).2.2.2⟩⟩
    have := Pcs.var (E := encR) (w := w) (S := S) nm o (A := none) (c := 0) hn hm (fun h => absurd h (by omega)) hp .nil
    simpa [encR] using this
  · refine ⟨some ⟨g, 0, none⟩, cap, fun b => S b ∨ b = g, rfl, ?_, fun b hb => ?_⟩
    · have := Pcs.var (E := encR) (w := w) (S := fun b => S b ∨ b = g) nm o (A := some ⟨g, 0, none⟩) (c := cap) hn hm (fun h => ⟨_, rfl, .inr rfl, ho.cells (g := g) rfl⟩) (hp.more fun b h => .inl h) .nil
      simpa [encR] using this
    · rcases hb with hb | rfl
      · exact ⟨(hS b hb).1, (hS b hb).2.1, (hS b hb).2.2.2⟩
      · exact ⟨(own_lt ho rfl).1, (own_lt ho rfl).2, own_nt ho (by decide) rfl⟩
theorem Pcs.one_litR (w : World) (S : Nat → Prop) (u : List UInt8) : Pcs encR w S (lits u .nil) (litR u) 1 := by
  have := Pcs.lit (E := encR) (w := w) (S := S) u .nil
  simpa [encR] using this
end

/-- The reference's reader: a text, a place in it, the escape, what is wrong, the names. -/
def rcellsR (s : List UInt8) (p : Nat) (e : UInt8) (no : Nat) (nv : Value) : Array Value := #[.string ⟨s.toArray⟩, .int .i64 p, .int .u8 e.toNat, .int .i64 no, nv]
abbrev RdrR (w : World) (rb : Nat) (s : List UInt8) (p : Nat) (e : UInt8) (no : Nat) (nv : Value) : Prop := Blk w rb 40 (rcellsR s p e no nv)
section
variable {w : World} {rb p no : Nat} {s : List UInt8} {e : UInt8} {nv : Value}
theorem RdrR.c0 (h : RdrR w rb s p e no nv) : w.cell? ⟨rb, 0, none⟩ = some (.string ⟨s.toArray⟩) := Blk.cell h 0
theorem RdrR.c1 (h : RdrR w rb s p e no nv) : w.cell? ⟨rb, 1, none⟩ = some (.int .i64 p) := Blk.cell h 1
theorem RdrR.c2 (h : RdrR w rb s p e no nv) : w.cell? ⟨rb, 2, none⟩ = some (.int .u8 e.toNat) := Blk.cell h 2
theorem RdrR.c3 (h : RdrR w rb s p e no nv) : w.cell? ⟨rb, 3, none⟩ = some (.int .i64 no) := Blk.cell h 3
theorem RdrR.c4 (h : RdrR w rb s p e no nv) : w.cell? ⟨rb, 4, none⟩ = some nv := Blk.cell h 4
theorem RdrR.to (h : RdrR w rb s p e no nv) (q : Nat) (z : Int) (hz : z = q) : RdrR (w.setCell ⟨rb, 1, none⟩ (.int .i64 z)) rb s q e no nv := by subst hz; exact h.set_ 1 (.int .i64 q)
theorem RdrR.bad (h : RdrR w rb s p e no nv) (k : Nat) (z : Int) (hz : z = k) : RdrR (w.setCell ⟨rb, 3, none⟩ (.int .i64 z)) rb s p e k nv := by subst hz; exact h.set_ 3 (.int .i64 k)
theorem RdrR.names (h : RdrR w rb s p e no nv) (nv' : Value) : RdrR (w.setCell ⟨rb, 4, none⟩ nv') rb s p e no nv' := h.set_ 4 nv'
end
end Exp
end Go.Proofs.YtnmnhnhlggbijaaDoor
