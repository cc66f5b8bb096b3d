/-
  Where a call of the reference's reading of a text stands: words and laws for its loops.
-/
import Derived.Test.YtnmnhnhlggbijaaDoorRfV
import Derived.Test.YtnmnhnhlggbijaaDoorExpS
namespace Go.Proofs.YtnmnhnhlggbijaaDoor
open Go.RowKit
namespace Exp
open T

/-- Where a call of the reference stands: place p, a list of pieces, the names so far. -/
structure RS (w wr : World) (rb : Nat) (s : List UInt8) (e : UInt8) (p : Nat) (v : Value) (t : T) (n no : Nat) (nv : Value) : Prop where
  rl : rb < w.heap.size
  hP : RL wr w.heap.size v t n
  hr : RdrR wr rb s p e no nv
  hK : Kq rb w wr
section
variable {w wr w1 w2 : World} {rb p n no : Nat} {s : List UInt8} {e : UInt8} {v nv : Value} {t : T} {nm : List (List UInt8)}
theorem RS.drewN (h : RS w wr rb s e p v t n no nv) (k : Nat) : RS w (wr.drewN k) rb s e p v t n no nv := ⟨h.rl, h.hP.drewN k, h.hr, h.hK.drewN k⟩
theorem RS.to (h : RS w wr rb s e p v t n no nv) (q : Nat) (z : Int) (hz : z = q) : RS w (wr.setCell ⟨rb, 1, none⟩ (.int .i64 z)) rb s e q v t n no nv :=
  ⟨h.rl, h.hP.kq ((Kq.refl rb wr).setCell (p := ⟨rb, 1, none⟩) (.inr rfl) _) h.rl, h.hr.to q z hz, h.hK.setCell (p := ⟨rb, 1, none⟩) (.inr rfl) _⟩
/-- Behind a call that reads on. -/
theorem RS.call {q no' : Nat} {nv' : Value} (h : RS w wr rb s e p v t n no nv) (hk : Kq rb wr w1) (hr : RdrR w1 rb s q e no' nv') : RS w w1 rb s e q v t n no' nv' := ⟨h.rl, h.hP.kq hk h.rl, hr, h.hK.trans hk⟩
theorem RS.bytes {q : Nat} (h : RS w wr rb s e p v t n no nv) (hr : RdrR w1 rb s q e no nv) (hk : Kp wr.heap.size (· = rb) wr w1) : RS w w1 rb s e q v t n no nv := h.call (Kp.kq hk) hr
theorem RS.cells (h : RS w wr rb s e p v t n no nv) : wr.cell? ⟨rb, 0, none⟩ = some (.string ⟨s.toArray⟩) ∧ wr.cell? ⟨rb, 1, none⟩ = some (.int .i64 p) ∧ wr.cell? ⟨rb, 2, none⟩ = some (.int .u8 e.toNat) ∧ wr.frozen? ⟨rb, 1, none⟩ = false :=
  ⟨RdrR.c0 h.hr, RdrR.c1 h.hr, RdrR.c2 h.hr, Blk.frozen h.hr 1⟩
/-- Pieces laid behind the list. -/
theorem RS.pushed {o : Obj} {t2 : T} {m : Nat} {v' : Value} (h : RS w wr rb s e p v t n no nv) (h1 : RL w1 w.heap.size v' (t.app t2) (n + m)) (h2 : Kq rb w w1) (h3 : (wr.alloc o).grownBy w1 v.ownBlock) (h4 : ∀ b, v.ownBlock = some b → w.heap.size ≤ b ∧ NT (wr.alloc o) b) : RS w w1 rb s e p v' (t.app t2) (n + m) no nv :=
  ⟨h.rl, h1, Blk.grown (Blk.alloc h.hr o) h3 (fun e => by have := (h4 rb e.symm).1; have := h.rl; omega), h2⟩
theorem RS.pushed0 {t2 : T} {m : Nat} {v' : Value} (h : RS w wr rb s e p v t n no nv) (h1 : RL w1 w.heap.size v' (t.app t2) (n + m)) (h2 : Kq rb w w1) (h3 : wr.grownBy w1 v.ownBlock) (h4 : ∀ b, v.ownBlock = some b → w.heap.size ≤ b ∧ NT wr b) : RS w w1 rb s e p v' (t.app t2) (n + m) no nv :=
  ⟨h.rl, h1, Blk.grown h.hr h3 (fun e => by have := (h4 rb e.symm).1; have := h.rl; omega), h2⟩
theorem own9_grown {B : Nat} (h : Own9 wr B nv nm) (h3 : wr.grownBy w1 v.ownBlock) (h4 : ∀ b, v.ownBlock = some b → NT wr b) : Own9 w1 B nv nm :=
  own_at h fun b hb => h3.block b (own_lt h hb).2 (fun e => own_t h hb (h4 b e.symm))
theorem own9_to {B : Nat} (h : Own9 wr B nv nm) (hr : RdrR wr rb s p e no nv) (u : Value) : Own9 (wr.setCell ⟨rb, 1, none⟩ u) B nv nm := Own9.far h hr (by decide) (p := ⟨rb, 1, none⟩) rfl u
end
theorem reads_new4 (w : World) (a0 a1 a2 a3 : Value) : Reads (w.alloc (.cells #[a0, a1, a2, a3] 74)) (w.alloc (.cells #[a0, a1, a2, a3] 74)).heap.size 4 (some ⟨w.heap.size, 0, none⟩) 1 [a0, a1, a2, a3] :=
  Reads.of_block (heap_alloc_new w _) rfl
/-- One byte, as a piece. -/
theorem bytes_one (s : List UInt8) (hs : s.length ≤ 1099511627776) (p q rb : Nat) (hp : p < s.length) (hq : q = p + 1) (e c : UInt8) (hc : s.getD p 0 = c) (no : Nat) (nv : Value) (w : World) (h : RdrR w rb s p e no nv) :
    Calls Tryd.prog 35 #[.pointer (some ⟨rb, 0, none⟩), .int .i64 1] w fun x w' => x = .returned (.agg #[.string ⟨#[c]⟩, .string ⟨#[]⟩, .int .u8 0, .slice none 0 0]) ∧ RdrR w' rb s q e no nv ∧ Kp w.heap.size (· = rb) w w' := by
  have := bytes_any s hs p 1 rb (by omega) e no nv w h
  unfold BytesPost at this
  rw [cut_one hp, hc, ← hq] at this
  exact this
theorem posOfR_is {wr : World} {rb p no : Nat} {s : List UInt8} {e : UInt8} {nv : Value} (h : RdrR wr rb s p e no nv) : posOf rb wr = p := by unfold posOf; rw [RdrR.c1 h]; simp
/-- The relation of the reference's loops: all is well, or what is wrong is told and nothing is left. -/
def RI (k : K) (s : List UInt8) (e : UInt8) (a rb : Nat) (acc : List (List UInt8)) (O : Out) (w : World) (v : Value) (wr : World) : Prop :=
  (∃ (p : Nat) (t : T) (n : Nat) (nv : Value) (o : Out), RS w wr rb s e p v t n 0 nv ∧ Own9 wr rb nv (mets acc t.nms) ∧ p ≤ s.length ∧ n + a ≤ p ∧ t.wt + a ≤ p ∧ Rd e k (s.drop p) o ∧ O = o.pre t) ∨
  ∃ (p : Nat) (t : T) (n no : Nat) (nv : Value), RS w wr rb s e p v t n no nv ∧ s.length ≤ p ∧ p ≤ s.length + 1 ∧ n + a ≤ s.length ∧ no ≠ 0 ∧ O = .err no
/-- A variable's text weighs no more than it is long. -/
theorem vrd_le {e : UInt8} {r r' : List UInt8} {t : T} (h : VRd e r (.ok t r')) : t.wt + r'.length ≤ r.length + 1 := by
  unfold VRd at h
  have h0 := clsVar_lw r
  split at h
  · rename_i o ho; subst h; rw [ho] at h0; exact h0
  · rename_i p q hq; cases h; rw [hq] at h0; exact h0
  · exact h.elim
  · rename_i n o q hq
    rw [hq] at h0
    rcases h with ⟨t', r2, h1, h2⟩ | ⟨no, _, h2⟩
    · cases h2
      have h3 : t'.wt + r'.length ≤ q.length := h1.le
      have h4 : n.length + 1 + q.length ≤ r.length + 1 := h0
      simp only [T.wt]; omega
    · cases h2
theorem vrd_no {e : UInt8} {r : List UInt8} {no : Nat} (h : VRd e r (.err no)) : no ≠ 0 := by
  unfold VRd at h
  have h0 := clsVar_no r
  split at h
  · rename_i o ho; subst h; rw [ho] at h0; have : no = 4 ∨ no = 18 := h0; omega
  · cases h
  · exact h.elim
  · rcases h with ⟨t', r2, _, h2⟩ | ⟨no', h1, h2⟩
    · cases h2
    · cases h2; have := h1.no; omega
theorem Pcs.four {w : World} {S : Nat → Prop} {t : T} {cs : List Value} (h : Pcs encR w S t cs 1) : ∃ a0 a1 a2 a3, cs = [a0, a1, a2, a3] := by
  have hl : cs.length = 1 * 4 := h.len
  match cs, hl with
  | [a0, a1, a2, a3], _ => exact ⟨a0, a1, a2, a3, rfl⟩
theorem quo_cases (e d : UInt8) : (esc1 e .quoted d = true ∧ ((d.toNat : Int) == 34) = true) ∨ (esc1 e .quoted d = true ∧ ((d.toNat : Int) == 34) = false ∧ ((d.toNat : Int) == 36) = true) ∨
    (esc1 e .quoted d = true ∧ ((d.toNat : Int) == 34) = false ∧ ((d.toNat : Int) == 36) = false ∧ ((d.toNat : Int) == (e.toNat : Int)) = true) ∨ (esc1 e .quoted d = false ∧ ((d.toNat : Int) == 34) = false ∧ ((d.toNat : Int) == 36) = false ∧ ((d.toNat : Int) == (e.toNat : Int)) = false) := by
  rw [esc1_q]
  by_cases h1 : d = 34
  · exact .inl ⟨by simp [h1], b8t h1⟩
  · by_cases h2 : d = 36
    · exact .inr (.inl ⟨by simp [h2], b8f h1, b8t h2⟩)
    · by_cases h3 : d = e
      · exact .inr (.inr (.inl ⟨by simp [h3], b8f h1, b8f h2, b8t h3⟩))
      · exact .inr (.inr (.inr ⟨by simp [h1, h2, h3], b8f h1, b8f h2, b8f h3⟩))
theorem doc_cases (e d : UInt8) : (esc1 e .doc d = true ∧ ((d.toNat : Int) == 36) = true) ∨ (esc1 e .doc d = true ∧ ((d.toNat : Int) == 36) = false ∧ ((d.toNat : Int) == (e.toNat : Int)) = true) ∨
    (esc1 e .doc d = false ∧ ((d.toNat : Int) == 36) = false ∧ ((d.toNat : Int) == (e.toNat : Int)) = false) := by
  rw [esc1_d]
  by_cases h2 : d = 36
  · exact .inl ⟨by simp [h2], b8t h2⟩
  · by_cases h3 : d = e
    · exact .inr (.inl ⟨by simp [h3], b8f h2, b8t h3⟩)
    · exact .inr (.inr ⟨by simp [h2, h3], b8f h2, b8f h3⟩)
theorem rstep_lit {k : K} {s : List UInt8} {e : UInt8} {p : Nat} {o O : Out} {t : T} (_hp : p < s.length) (hc : cls e k (s.drop p) = .lit (.lit [s.getD p 0] .nil) (s.drop (p + 1))) (h : Rd e k (s.drop p) o) (hO : O = o.pre t) :
    ∃ o', Rd e k (s.drop (p + 1)) o' ∧ O = o'.pre (t.app (.lit [s.getD p 0] .nil)) := by
  obtain ⟨o', h1, rfl⟩ := h.at_lit hc
  exact ⟨o', h1, by rw [hO, Out.pre_pre]⟩
theorem rstep_esc {k : K} {s : List UInt8} {e : UInt8} {p : Nat} {o O : Out} {t : T} (_hp : p + 1 < s.length) (hc : cls e k (s.drop p) = .lit (.lit [s.getD (p + 1) 0] .nil) (s.drop (p + 2))) (h : Rd e k (s.drop p) o) (hO : O = o.pre t) :
    ∃ o', Rd e k (s.drop (p + 2)) o' ∧ O = o'.pre (t.app (.lit [s.getD (p + 1) 0] .nil)) := by
  obtain ⟨o', h1, rfl⟩ := h.at_lit hc
  exact ⟨o', h1, by rw [hO, Out.pre_pre]⟩
end Exp
end Go.Proofs.YtnmnhnhlggbijaaDoor
