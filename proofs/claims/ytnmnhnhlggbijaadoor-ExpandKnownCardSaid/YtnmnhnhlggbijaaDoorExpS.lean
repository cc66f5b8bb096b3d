/-
  The walk of package expand's (*reader).read at this seat's translation.
-/
import Derived.Test.YtnmnhnhlggbijaaDoorExpV
namespace Go.Proofs.YtnmnhnhlggbijaaDoor
open Go.RowKit
namespace Exp
open T

/-- The blocks of a call of read. -/
structure Fx (w : World) (rb b2 b6 b7 B : Nat) : Prop where
  r : rb < w.heap.size
  l2 : w.heap.size ≤ b2
  l6 : w.heap.size ≤ b6
  l7 : w.heap.size ≤ b7
  u2 : b2 < B
  u6 : b6 < B
  u7 : b7 < B
/-- Where a call of read stands: place p, bytes from f on not told yet, a list of pieces. -/
structure SS (w wr : World) (rb b2 b6 b7 B : Nat) (s : List UInt8) (e : UInt8) (p f : Nat) (v : Value) (t : T) (n : Nat) : Prop where
  h2 : Blk wr b2 55 #[.pointer (some ⟨rb, 0, none⟩)]
  hr : Rdr wr rb s p e
  h6 : Blk wr b6 58 #[v]
  h7 : Blk wr b7 3 #[.int .i64 f]
  hP : PP wr B v t n
  hB : B ≤ wr.heap.size
  hK : Kp w.heap.size (· = rb) w wr
section
variable {w wr w1 : World} {rb b2 b6 b7 B p f n : Nat} {s : List UInt8} {e : UInt8} {v : Value} {t : T}
theorem Fx.rB (h : Fx w rb b2 b6 b7 B) : rb < B := by have := h.r; have := h.l2; have := h.u2; omega
theorem SS.nes (h : SS w wr rb b2 b6 b7 B s e p f v t n) : ¬ b2 = rb ∧ ¬ b6 = rb ∧ ¬ b7 = rb ∧ ¬ b2 = b6 ∧ ¬ b7 = b6 ∧ ¬ b2 = b7 ∧ ¬ b6 = b7 :=
  ⟨h.h2.ne_ h.hr (by decide), h.h6.ne_ h.hr (by decide), h.h7.ne_ h.hr (by decide), h.h2.ne_ h.h6 (by decide), h.h7.ne_ h.h6 (by decide), h.h2.ne_ h.h7 (by decide), h.h6.ne_ h.h7 (by decide)⟩
theorem SS.drewN (h : SS w wr rb b2 b6 b7 B s e p f v t n) (k : Nat) : SS w (wr.drewN k) rb b2 b6 b7 B s e p f v t n :=
  ⟨h.h2, h.hr, h.h6, h.h7, h.hP.drewN k, h.hB, h.hK.drewN k⟩
theorem SS.drew (h : SS w wr rb b2 b6 b7 B s e p f v t n) : SS w wr.drew rb b2 b6 b7 B s e p f v t n :=
  ⟨h.h2, h.hr, h.h6, h.h7, h.hP.drew, h.hB, h.hK.drew⟩
theorem SS.at (h : SS w wr rb b2 b6 b7 B s e p f v t n) (x : Fx w rb b2 b6 b7 B) (q : Nat) (z : Int) (hz : z = q) : SS w (wr.setCell ⟨rb, 1, none⟩ (.int .i64 z)) rb b2 b6 b7 B s e q f v t n :=
  ⟨h.h2.far h.nes.1 _, h.hr.to q z hz, h.h6.far h.nes.2.1 _, h.h7.far h.nes.2.2.1 _, h.hP.setCell x.rB _, by simpa using h.hB, h.hK.rdr _⟩
theorem SS.from (h : SS w wr rb b2 b6 b7 B s e p f v t n) (x : Fx w rb b2 b6 b7 B) (g : Nat) (z : Int) (hz : z = g) : SS w (wr.setCell ⟨b7, 0, none⟩ (.int .i64 z)) rb b2 b6 b7 B s e p g v t n := by
  subst hz
  exact ⟨h.h2.far h.nes.2.2.2.2.2.1 _, Blk.far h.hr (p := ⟨b7, 0, none⟩) (fun e => h.nes.2.2.1 e.symm) _, h.h6.far h.nes.2.2.2.2.2.2 _, h.h7.set_ 0 _, h.hP.setCell x.u7 _, by simpa using h.hB,
    Kp.setCell (X := (· = rb)) (p := ⟨b7, 0, none⟩) h.hK (.inl x.l7) _⟩
/-- Behind a call that leaves all but the reader as it was. -/
theorem SS.call (h : SS w wr rb b2 b6 b7 B s e p f v t n) (x : Fx w rb b2 b6 b7 B) {q : Nat} (hk : Kp wr.heap.size (· = rb) wr w1) (hr : Rdr w1 rb s q e) : SS w w1 rb b2 b6 b7 B s e q f v t n :=
  ⟨hk.blk h.h2 h.h2.lt h.nes.1, hr, hk.blk h.h6 h.h6.lt h.nes.2.1, hk.blk h.h7 h.h7.lt h.nes.2.2.1, h.hP.kp hk (Nat.le_refl _) (fun b h1 _ e => by have := x.rB; omega), Nat.le_trans h.hB hk.size, h.hK.trans (hk.mono h.hK.size (fun _ _ h => h))⟩
/-- Pieces laid behind the list. -/
theorem SS.laid (h : SS w wr rb b2 b6 b7 B s e p f v t n) (x : Fx w rb b2 b6 b7 B) {v' : Value} {t' : T} {n' : Nat} (hP : PP w1 B v' t' n') (hk : Kp B (fun _ => False) wr w1) : SS w (w1.setCell ⟨b6, 0, none⟩ v') rb b2 b6 b7 B s e p f v' t' n' :=
  ⟨(hk.blk h.h2 x.u2 id).far h.nes.2.2.2.1 _, Blk.far (hk.blk h.hr x.rB id) (p := ⟨b6, 0, none⟩) (fun e => h.nes.2.1 e.symm) _, (hk.blk h.h6 x.u6 id).set_ 0 v', (hk.blk h.h7 x.u7 id).far h.nes.2.2.2.2.1 _, hP.setCell x.u6 _, by simpa using Nat.le_trans h.hB hk.size,
    Kp.setCell (X := (· = rb)) (p := ⟨b6, 0, none⟩) (h.hK.trans (hk.mono (by have := x.l2; have := x.u2; omega) (fun _ _ h => h.elim))) (.inl x.l6) _⟩
/-- Bytes that stand as they are, laid. -/
theorem SS.tell (h : SS w wr rb b2 b6 b7 B s e p f v t n) (x : Fx w rb b2 b6 b7 B) (hf : f ≤ p) (hp : p ≤ s.length) (hn : n ≤ 4398046511104) :
    Calls Tryd.prog 48 #[.pointer (some ⟨b2, 0, none⟩), .pointer (some ⟨b7, 0, none⟩), .pointer (some ⟨b6, 0, none⟩)] wr fun y w1 => y = .returned (.tuple #[]) ∧ ∃ v' n', SS w w1 rb b2 b6 b7 B s e p f v' (t.app (lits (cut s f p) .nil)) n' ∧ n' ≤ n + (p - f) := by
  refine (tell_any s e p f rb b2 b6 b7 B v t n wr h.h2 h.hr h.h6 h.h7 h.hP h.hB x.u6 x.u2 x.u7 x.rB hf hp hn).mono ?_
  rintro y w1 ⟨rfl, v', n', h6, hP, hn', hk⟩
  exact ⟨rfl, v', n', ⟨hk.blk h.h2 x.u2 h.nes.2.2.2.1, hk.blk h.hr x.rB (fun e => h.nes.2.1 e.symm), h6, hk.blk h.h7 x.u7 h.nes.2.2.2.2.1, hP, Nat.le_trans h.hB hk.size,
    h.hK.trans (hk.mono (by have := x.l2; have := x.u2; omega) (fun k hk e => by have := x.l6; omega))⟩, hn'⟩
end
/-- What is read of the call's blocks where all below them is as it was. -/
theorem SS.mid {w wr w1 : World} {rb b2 b6 b7 B p f n : Nat} {s : List UInt8} {e : UInt8} {v : Value} {t : T} (h : SS w wr rb b2 b6 b7 B s e p f v t n) (x : Fx w rb b2 b6 b7 B) (hk : Kp B (fun _ => False) wr w1) :
    w1.cell? ⟨b2, 0, none⟩ = some (.pointer (some ⟨rb, 0, none⟩)) ∧ w1.cell? ⟨rb, 0, none⟩ = some (.string ⟨s.toArray⟩) ∧ w1.cell? ⟨rb, 1, none⟩ = some (.int .i64 p) ∧ w1.frozen? ⟨rb, 1, none⟩ = false ∧
      w1.cell? ⟨b7, 0, none⟩ = some (.int .i64 f) ∧ w1.frozen? ⟨b7, 0, none⟩ = false ∧ w1.cell? ⟨b6, 0, none⟩ = some v ∧ w1.frozen? ⟨b6, 0, none⟩ = false := by
  have h2 := hk.blk h.h2 x.u2 id
  have hr := hk.blk h.hr x.rB id
  have h7 := hk.blk h.h7 x.u7 id
  have h6 := hk.blk h.h6 x.u6 id
  exact ⟨h2.cell 0, Rdr.c0 hr, Rdr.c1 hr, Blk.frozen hr 1, h7.cell 0, h7.frozen 0, h6.cell 0, h6.frozen 0⟩
theorem SS.cells {w wr : World} {rb b2 b6 b7 B p f n : Nat} {s : List UInt8} {e : UInt8} {v : Value} {t : T} (h : SS w wr rb b2 b6 b7 B s e p f v t n) :
    wr.cell? ⟨b2, 0, none⟩ = some (.pointer (some ⟨rb, 0, none⟩)) ∧ wr.cell? ⟨rb, 0, none⟩ = some (.string ⟨s.toArray⟩) ∧ wr.cell? ⟨rb, 1, none⟩ = some (.int .i64 p) ∧ wr.frozen? ⟨rb, 1, none⟩ = false ∧
      wr.cell? ⟨b7, 0, none⟩ = some (.int .i64 f) ∧ wr.frozen? ⟨b7, 0, none⟩ = false ∧ wr.cell? ⟨b6, 0, none⟩ = some v ∧ wr.frozen? ⟨b6, 0, none⟩ = false :=
  ⟨h.h2.cell 0, Rdr.c0 h.hr, Rdr.c1 h.hr, Blk.frozen h.hr 1, h.h7.cell 0, h.h7.frozen 0, h.h6.cell 0, h.h6.frozen 0⟩
/-- How far a call of read has come. -/
def posOf (rb : Nat) (wr : World) : Nat := match wr.cell? ⟨rb, 1, none⟩ with | some (.int _ n) => n.toNat | _ => 0
theorem posOf_is {wr : World} {rb p : Nat} {s : List UInt8} {e : UInt8} (h : Rdr wr rb s p e) : posOf rb wr = p := by unfold posOf; rw [h.c1]; simp

theorem ext1 (t : T) (u : List UInt8) (c : UInt8) : (t.app (lits u .nil)).app (.lit [c] .nil) = t.app (lits (u ++ [c]) .nil) := by
  rw [app_assoc, lits_app, lits_append]; rfl
theorem step_lit {k : K} {s : List UInt8} {e : UInt8} {p f : Nat} {o O : Out} {t : T} (hp : p < s.length) (hf : f ≤ p) (hc : cls e k (s.drop p) = .lit (.lit [s.getD p 0] .nil) (s.drop (p + 1))) (h : Rd e k (s.drop p) o) (hO : O = o.pre (t.app (lits (cut s f p) .nil))) :
    ∃ o', Rd e k (s.drop (p + 1)) o' ∧ O = o'.pre (t.app (lits (cut s f (p + 1)) .nil)) := by
  obtain ⟨o', h1, rfl⟩ := h.at_lit hc
  exact ⟨o', h1, by rw [hO, Out.pre_pre, ext1, cut_snoc hf hp]⟩
theorem step_esc {k : K} {s : List UInt8} {e : UInt8} {p f : Nat} {o O : Out} {t : T} (hp : p + 1 < s.length) (hc : cls e k (s.drop p) = .lit (.lit [s.getD (p + 1) 0] .nil) (s.drop (p + 2))) (h : Rd e k (s.drop p) o) (hO : O = o.pre (t.app (lits (cut s f p) .nil))) :
    ∃ o', Rd e k (s.drop (p + 2)) o' ∧ O = o'.pre ((t.app (lits (cut s f p) .nil)).app (lits (cut s (p + 1) (p + 2)) .nil)) := by
  obtain ⟨o', h1, rfl⟩ := h.at_lit hc
  exact ⟨o', h1, by rw [hO, Out.pre_pre, cut_one hp]; rfl⟩
theorem cls_esc {k : K} {s : List UInt8} {e : UInt8} {p : Nat} (hp : p + 1 < s.length) (hc : s.getD p 0 = e) (h : esc1 e k (s.getD (p + 1) 0) = true) : cls e k (s.drop p) = .lit (.lit [s.getD (p + 1) 0] .nil) (s.drop (p + 2)) := by
  rw [drop_at (by omega), drop_at hp]
  simp only [cls, clsC, hc, if_true, h]
theorem cls_noesc {k : K} {s : List UInt8} {e : UInt8} {p : Nat} (hp : p < s.length) (hc : s.getD p 0 = e) (h : p + 1 < s.length → esc1 e k (s.getD (p + 1) 0) = false) : cls e k (s.drop p) = .lit (.lit [s.getD p 0] .nil) (s.drop (p + 1)) := by
  rw [drop_at hp]
  simp only [cls, clsC, hc, if_true]
  rcases Nat.lt_or_ge (p + 1) s.length with h1 | h1
  · rw [drop_at h1]
    simp only [h h1, Bool.false_eq_true, if_false]
  · rw [List.drop_eq_nil_of_le h1]
theorem cls_plain {k : K} {s : List UInt8} {e : UInt8} {p : Nat} (hp : p < s.length) (h1 : s.getD p 0 ≠ e) (h2 : s.getD p 0 ≠ 36) (h3 : ¬ ((k = .quoted ∧ s.getD p 0 = 34) ∨ (k = .braces ∧ s.getD p 0 = 125)))
    (h4 : k = .quoted ∨ k = .doc ∨ (s.getD p 0 ≠ 34 ∧ s.getD p 0 ≠ 39)) : cls e k (s.drop p) = .lit (.lit [s.getD p 0] .nil) (s.drop (p + 1)) := by
  rw [drop_at hp]
  simp only [cls, clsC]
  rw [if_neg h1, if_neg h2, if_neg h3, if_pos h4]
theorem cls_at {k : K} {s : List UInt8} {e : UInt8} {p : Nat} (hp : p < s.length) : cls e k (s.drop p) = clsC e k (s.getD p 0) (s.drop (p + 1)) := by rw [drop_at hp]; rfl
theorem clsC_end {e : UInt8} {k : K} {c : UInt8} {r : List UInt8} (h1 : c ≠ e) (h2 : c ≠ 36) (h3 : (k = .quoted ∧ c = 34) ∨ (k = .braces ∧ c = 125)) : clsC e k c r = .fin (.ok .nil r) := by
  unfold clsC; rw [if_neg h1, if_neg h2, if_pos h3]
theorem clsC_dq {e : UInt8} {k : K} {c : UInt8} {r : List UInt8} (h1 : c ≠ e) (hk : k = .plain ∨ k = .braces) (h : c = 34) : clsC e k c r = .quo r := by
  unfold clsC; rw [if_neg h1]; subst h; rcases hk with rfl | rfl <;> simp
theorem clsC_sq {e : UInt8} {k : K} {c : UInt8} {r : List UInt8} (h1 : c ≠ e) (hk : k = .plain ∨ k = .braces) (h : c = 39) : clsC e k c r = clsQ r := by
  unfold clsC; rw [if_neg h1]; subst h; rcases hk with rfl | rfl <;> simp
/-- No end of a text, no quote. -/
def Cls.Soft : Cls → Prop
  | .fin (.ok _ _) => False
  | .quo _ => False
  | _ => True
theorem clsEnd_soft (n s : List UInt8) : (clsEnd n s).Soft := by
  cases s with
  | nil => trivial
  | cons c r =>
    simp only [clsEnd]
    split
    · trivial
    · split
      · cases r with
        | nil => trivial
        | cons o r' => simp only; split <;> trivial
      · trivial
theorem clsVar_soft (s : List UInt8) : (clsVar s).Soft := by
  unfold clsVar
  split
  · trivial
  · cases s with
    | nil => trivial
    | cons c q =>
      simp only
      split
      · unfold clsBr
        split
        · trivial
        · exact clsEnd_soft _ _
      · trivial
theorem vrd_of {k : K} {s : List UInt8} {e : UInt8} {p : Nat} {o : Out} (hp : p < s.length) (hc : s.getD p 0 = 36) (he : (36 : UInt8) ≠ e) (h : Rd e k (s.drop p) o) :
    ∃ Ov, VRd e (s.drop (p + 1)) Ov ∧ ((∃ t r' o', Ov = .ok t r' ∧ Rd e k r' o' ∧ o = o'.pre t) ∨ ∃ no, Ov = .err no ∧ o = .err no) := by
  have hcl : cls e k (s.drop p) = clsVar (s.drop (p + 1)) := by
    rw [cls_at hp, hc]; unfold clsC; rw [if_neg he, if_pos rfl]
  have hs := clsVar_soft (s.drop (p + 1))
  unfold VRd
  cases hv : clsVar (s.drop (p + 1)) with
  | fin o1 =>
    rw [hv] at hcl hs
    cases o1 with
    | ok _ _ => exact hs.elim
    | err no => exact ⟨.err no, rfl, .inr ⟨no, rfl, h.at_fin hcl⟩⟩
  | lit p r =>
    rw [hv] at hcl
    obtain ⟨o', h1, h2⟩ := h.at_lit hcl
    exact ⟨.ok p r, rfl, .inl ⟨p, r, o', rfl, h1, h2⟩⟩
  | quo r => rw [hv] at hs; exact hs.elim
  | var n q r =>
    rw [hv] at hcl
    rcases h.at_var hcl with ⟨t, r', o', h1, h2, h3⟩ | ⟨no, h1, h2⟩
    · exact ⟨.ok (.var n q t .nil) r', .inl ⟨t, r', h1, rfl⟩, .inl ⟨_, _, o', rfl, h2, h3⟩⟩
    · exact ⟨.err no, .inr ⟨no, h1, rfl⟩, .inr ⟨no, rfl, h2⟩⟩
theorem SS.done {w wr : World} {rb b2 b6 b7 B q f n a : Nat} {s : List UInt8} {e : UInt8} {v : Value} {t : T} {O : Out} (h : SS w wr rb b2 b6 b7 B s e q f v t n) (x : Fx w rb b2 b6 b7 B) (hn : n + a ≤ q) (hq : q ≤ s.length) (hO : O = .ok t (s.drop q)) :
    ReadPost rb s e a O w (.returned (.tuple #[v, .nilIface])) wr := by
  subst hO
  exact ⟨v, n, q, rfl, h.hP.less (by have := x.l2; have := x.u2; omega), hn, hq, rfl, h.hr, h.hK⟩
theorem SS.bad {w wr : World} {rb b2 b6 b7 B q f n a no : Nat} {s : List UInt8} {e : UInt8} {v : Value} {t : T} {O : Out} (h : SS w wr rb b2 b6 b7 B s e q f v t n) (hO : O = .err no) :
    ReadPost rb s e a O w (.returned (.tuple #[.slice none 0 0, .iface 45 (.int .i64 no)])) wr := by
  subst hO
  exact ⟨rfl, ⟨q, h.hr⟩, h.hK⟩
theorem Pcs.iface1 {w : World} {S : Nat → Prop} {t : T} {u : Value} (h : Pcs encP w S t [u] 1) : ∃ d x, u = .iface d x := by
  generalize hv : [u] = vs at h
  cases h with
  | lit b _ => rw [show encP.L b = [litV b] from rfl] at hv; obtain ⟨rfl, _⟩ := List.cons.inj hv; exact ⟨_, _, rfl⟩
  | var n o _ _ _ _ _ => rename_i A m c us i t' vs _ _ _ _ _; rw [show encP.V n o A m c = [varV n o A m c] from rfl] at hv; obtain ⟨rfl, _⟩ := List.cons.inj hv; exact ⟨_, _, rfl⟩
theorem kq2 (k : K) : ((k.num : Int) == 2) = decide (k = .quoted) := by cases k <;> rfl
theorem kq1 (k : K) : ((k.num : Int) == 1) = decide (k = .braces) := by cases k <;> rfl
/-- The relation of read's loop. -/
def ReadI (k : K) (s : List UInt8) (e : UInt8) (a rb b2 b6 b7 B : Nat) (O : Out) (w wr : World) : Prop :=
  ∃ (p f : Nat) (v : Value) (t : T) (n : Nat) (o : Out), SS w wr rb b2 b6 b7 B s e p f v t n ∧ f ≤ p ∧ p ≤ s.length ∧ n + a ≤ f ∧ Rd e k (s.drop p) o ∧ O = o.pre (t.app (lits (cut s f p) .nil))
set_option maxHeartbeats 8000000 in
set_option maxRecDepth 100000 in
theorem read_step (m : Nat) (hV : VarC m) (hR : ∀ m', m' < m → ReadC m') : ReadC m := by
  intro k s a rb e O w hs ha hm hr hrd
  obtain ⟨kn, hkn⟩ : ∃ kn, kn = k.num := ⟨_, rfl⟩
  rw [← hkn]
  have hrl := Blk.lt hr
  have c1 := hr.c1
  have HF : Hid (Fx w rb w.heap.size (w.heap.size + 1) (w.heap.size + 2) (w.heap.size + 3)) := Lib.hid ⟨hrl, by omega, by omega, by omega, by omega, by omega, by omega⟩
  have HI0 : Hid (ReadI k s e a rb w.heap.size (w.heap.size + 1) (w.heap.size + 2) (w.heap.size + 3) O w (((w.alloc (.cells #[.pointer (some ⟨rb, 0, none⟩)] 55)).alloc (.cells #[.slice none 0 0] 58)).alloc (.cells #[.int .i64 a] 3))) := Lib.hid
    ⟨a, a, _, .nil, 0, O, ⟨((Blk.new w _ _).alloc _).alloc _, ((Blk.alloc hr _).alloc _).alloc _, by have := (Blk.new (w.alloc (.cells #[.pointer (some ⟨rb, 0, none⟩)] 55)) 58 #[.slice none 0 0]).alloc (.cells #[.int .i64 a] 3); simpa using this,
      by have := Blk.new ((w.alloc (.cells #[.pointer (some ⟨rb, 0, none⟩)] 55)).alloc (.cells #[.slice none 0 0] 58)) 3 #[.int .i64 a]; simpa using this,
      PL.nil _ _ _ _, by simp, (((Kp.refl _ _ _).alloc (Nat.le_refl _) _).alloc (by simp) _).alloc (by simp; omega) _⟩, by omega, ha, by omega, hrd, by rw [cut_nil]; simp [lits, T.app]⟩
  have HKN := Lib.hid hkn
  have HV := Lib.hid hV
  have HR := Lib.hid hR
  have HM := Lib.hid hm
  clear hkn hr hrd hV hR hm
  go_enter Tryd.func31, Tryd.ntmps31
  go_wp2_with fail
  go_loopw [] (fun wr => Hid (ReadI k s e a rb w.heap.size (w.heap.size + 1) (w.heap.size + 2) (w.heap.size + 3) O w wr)) (fun wr => s.length - posOf rb wr)
  case atStart => exact HI0
  case round =>
    obtain ⟨p, f, v, t, n, o, hS, hfp, hps, hn, hrd, hO⟩ := hrel.out
    have HS := Lib.hid hS
    have HRD := Lib.hid hrd
    have HO := Lib.hid hO
    have HPO := Lib.hid (posOf_is hS.hr)
    have HEND : Hid (∀ (q g : Nat) (v' : Value) (t' : T) (n' : Nat) (o' : Out) (w' : World), SS w w' rb w.heap.size (w.heap.size + 1) (w.heap.size + 2) (w.heap.size + 3) s e q g v' t' n' → g ≤ q → q ≤ s.length → n' + a ≤ g → Rd e k (s.drop q) o' → O = o'.pre (t'.app (lits (cut s g q) .nil)) → p < q →
        Hid (ReadI k s e a rb w.heap.size (w.heap.size + 1) (w.heap.size + 2) (w.heap.size + 3) O w w') ∧ s.length - posOf rb w' < s.length - posOf rb wr) := Lib.hid (fun q g v' t' n' o' w' h1 h2 h3 h4 h5 h6 h7 =>
      ⟨Lib.hid ⟨q, g, v', t', n', o', h1, h2, h3, h4, h5, h6⟩, by rw [HPO.out, posOf_is h1.hr]; omega⟩)
    clear hS hrd hO hrel
    have k2 := HS.out.h2.cell 0
    have k7 := HS.out.h7.cell 0
    simp only [List.getElem?_toArray, List.getElem?_cons_zero] at k2 k7
    have c0 := HS.out.hr.c0
    have c1 := HS.out.hr.c1
    by_cases hlt : p < s.length
    · have hidx := run_index_list Tryd.underlying9 s p hlt
      obtain ⟨c, hc⟩ : ∃ c, c = s.getD p 0 := ⟨_, rfl⟩
      rw [← hc] at hidx
      have HC := Lib.hid hc
      clear hc
      have q0 : decide ((p : Int) < (s.length : Int)) = true := by simpa using hlt
      go_wp2_with fail
      go_quiet (fail)
      have HS1 := Lib.hid (HS.out.drewN nq)
      clear k2 k7 c0 c1
      generalize wr.drewN nq = w1 at HS1 ⊢
      have k2 := HS1.out.h2.cell 0
      simp only [List.getElem?_toArray, List.getElem?_cons_zero] at k2
      have c0 := HS1.out.hr.c0
      have c1 := HS1.out.hr.c1
      go_wp2_with fail
      go_quiet (fail)
      have HS2 := Lib.hid (HS1.out.drewN nq)
      clear k2 c0 c1 HS1 q0
      generalize w1.drewN nq = w2 at HS2 ⊢
      have k2 := HS2.out.h2.cell 0
      have k7 := HS2.out.h7.cell 0
      simp only [List.getElem?_toArray, List.getElem?_cons_zero] at k2 k7
      have c0 := HS2.out.hr.c0
      have c1 := HS2.out.hr.c1
      have c2 := HS2.out.hr.c2
      have f1 := Blk.frozen HS2.out.hr 1
      have f7 := HS2.out.h7.frozen 0
      have hb7 : ¬ rb = w.heap.size + 2 := by omega
      have hb2 : ¬ rb = w.heap.size := by omega
      have hb6 : ¬ rb = w.heap.size + 1 := by omega
      by_cases hce : c = e
      · have q1 : ((c.toNat : Int) == (e.toNat : Int)) = true := b8t hce
        -- <
        as_aux_lemma =>
          have HCE := Lib.hid hce
          have hi1 : IntKind.i64.wrap ((p : Int) + 1) = (p : Int) + 1 := IntWalk.i64_in _ (by omega)
          have hi2 : (0 : Int) ≤ (p : Int) + 1 := by omega
          have hi3 : ((p : Int) + 1).toNat = p + 1 := by omega
          clear hce
          by_cases hl2 : p + 1 < s.length
          · have hidx2 := run_index_list Tryd.underlying9 s (p + 1) hl2
            rw [show ((p + 1 : Nat) : Int) = (p : Int) + 1 by omega] at hidx2
            have q2 : decide ((p : Int) + 1 < (s.length : Int)) = true := by rw [decide_eq_true_iff]; omega
            obtain ⟨d, hd⟩ : ∃ d, d = s.getD (p + 1) 0 := ⟨_, rfl⟩
            rw [← hd] at hidx2
            have HE : Hid (∀ wx, Rdr wx rb s p e → Calls Tryd.prog 49 #[.pointer (some ⟨rb, 0, none⟩), .int .i64 kn, .int .u8 d.toNat] wx fun x w' => x = .returned (.bool (esc1 e k d)) ∧ wx = w') := Lib.hid (fun wx h => by
              rw [HKN.out]; exact escapes_any k s p rb e d wx h)
            have HZ : Hid (esc1 e k d = esc1 e k (s.getD (p + 1) 0)) := Lib.hid (by rw [hd])
            clear hd
            cases hz : esc1 e k d
            · have hz' := HZ.out.symm.trans hz
              have HX := Lib.hid (step_lit hlt hfp (cls_noesc hlt (HC.out.symm.trans HCE.out) (fun _ => hz')) HRD.out HO.out)
              rw [hz] at HE
              clear hz hz' HZ
              go_wp2_with fail
              go_quiet (exact Calls.quiet_of ((HE.out _ (by exact HS2.out.hr)).mono (by rintro y w' ⟨rfl, rfl⟩; exact ⟨rfl, 0, rfl⟩)))
              have HS3 := Lib.hid (HS2.out.drewN nq)
              clear k2 k7 c0 c1 c2 f1 f7 hi1 hi2 hi3 hidx2
              generalize w2.drewN nq = w3 at HS3 ⊢
              have k2 := HS3.out.h2.cell 0
              simp only [List.getElem?_toArray, List.getElem?_cons_zero] at k2
              have c1 := HS3.out.hr.c1
              have f1 := Blk.frozen HS3.out.hr 1
              obtain ⟨o', h1, h2⟩ := HX.out
              have H1 := Lib.hid h1
              have H2 := Lib.hid h2
              clear h1 h2
              go_wp2
              exact HEND.out (p + 1) f v t n o' _ (HS3.out.at HF.out (p + 1) _ (by omega)) (by omega) (by omega) hn H1.out H2.out (by omega)
            · have hz' := HZ.out.symm.trans hz
              have HX := Lib.hid (step_esc hl2 (cls_esc hl2 (HC.out.symm.trans HCE.out) hz') HRD.out HO.out)
              rw [hz] at HE
              clear hz hz' HZ
              go_wp2_with fail
              go_quiet (exact Calls.quiet_of ((HE.out _ (by exact HS2.out.hr)).mono (by rintro y w' ⟨rfl, rfl⟩; exact ⟨rfl, 0, rfl⟩)))
              have HS3 := Lib.hid (HS2.out.drewN nq)
              clear k2 k7 c0 c1 c2 f1 f7 hi1 hi2 hi3 hidx2
              generalize w2.drewN nq = w3 at HS3 ⊢
              go_wp2_with fail
              refine (HS3.out.tell HF.out hfp hps (by omega)).mono ?_
              rintro y w4 ⟨rfl, v4, n4, hS4, hn4⟩
              have HS4 := Lib.hid hS4
              clear hS4
              obtain ⟨k2, c0, c1, f1, k7, f7, _, _⟩ := HS4.out.cells
              obtain ⟨o', h1, h2⟩ := HX.out
              have H1 := Lib.hid h1
              have H2 := Lib.hid h2
              clear h1 h2
              go_wp2
              exact HEND.out (p + 2) (p + 1) v4 _ n4 o' _ (((HS4.out.from HF.out (p + 1) _ (by omega)).at HF.out (p + 1) _ (by omega)).at HF.out (p + 2) _ (by omega)) (by omega) (by omega) (by omega) H1.out H2.out (by omega)
          · have q2 : decide ((p : Int) + 1 < (s.length : Int)) = false := by rw [decide_eq_false_iff_not]; omega
            have HX := Lib.hid (step_lit hlt hfp (cls_noesc hlt (HC.out.symm.trans HCE.out) (fun h => absurd h hl2)) HRD.out HO.out)
            go_wp2_with fail
            go_quiet (fail)
            have HS3 := Lib.hid (HS2.out.drewN nq)
            clear k2 k7 c0 c1 c2 f1 f7 hi1 hi2 hi3
            generalize w2.drewN nq = w3 at HS3 ⊢
            obtain ⟨k2, c0, c1, f1, k7, f7, _, _⟩ := HS3.out.cells
            obtain ⟨o', h1, h2⟩ := HX.out
            have H1 := Lib.hid h1
            have H2 := Lib.hid h2
            clear h1 h2
            go_wp2
            exact HEND.out (p + 1) f v t n o' _ (HS3.out.at HF.out (p + 1) _ (by omega)) (by omega) (by omega) hn H1.out H2.out (by omega)
        -- >
      · have q1 : ((c.toNat : Int) == (e.toNat : Int)) = false := b8f hce
        by_cases h36 : c = 36
        · have q2 : ((c.toNat : Int) == 36) = true := b8t h36
          -- <
          as_aux_lemma =>
            obtain ⟨Ov, hv, hov⟩ := vrd_of hlt (HC.out.symm.trans h36) (fun h => hce (h36.trans h)) HRD.out
            have HV1 := Lib.hid hv
            have HOV := Lib.hid hov
            clear hv hov hce h36
            go_wp2_with fail
            refine (HS2.out.tell HF.out hfp hps (by omega)).mono ?_
            rintro y w4 ⟨rfl, v4, n4, hS4, hn4⟩
            obtain ⟨A4, c4, rfl⟩ := hS4.hP.form
            have HS4 := Lib.hid hS4
            clear hS4 k2 k7 c0 c1 c2 f1 f7
            obtain ⟨k2, c0, c1, f1, k7, f7, k6, f6⟩ := HS4.out.cells
            go_wp2_with fail
            refine (HV.out s p rb e Ov _ hs hlt (by have := HM.out; omega) HS4.out.hr HV1.out).mono ?_
            intro y w5 hp5
            have HP5 := Lib.hid hp5
            clear hp5
            rcases HOV.out with ⟨t5, r5, o', rfl, h1, h2⟩ | ⟨no, rfl, h2⟩
            · obtain ⟨u, S5, q, rfl, hpc5, hS5l, hr5, hpq, hqs, hrd5, hk5⟩ := HP5.out
              obtain ⟨ud, ux, rfl⟩ := hpc5.iface1
              have HS5 := Lib.hid (HS4.out.call HF.out hk5 hrd5)
              have hx5 : w.heap.size + 3 ≤ w4.heap.size := HS4.out.hB
              have hx6 := hk5.size
              have HPC := Lib.hid (hpc5.kept (w' := w5.alloc (.cells #[.iface ud ux] 62)) (fun p hp => World.cell?_of_block (Below.heap_alloc w5 _ _ (hS5l _ hp).2)))
              have HSL : Hid (∀ b, S5 b → w.heap.size + 3 ≤ b ∧ b < (w5.alloc (.cells #[.iface ud ux] 62)).heap.size ∧ (Value.slice A4 n4 c4).ownBlock ≠ some b) := Lib.hid (fun b hb => by
                obtain ⟨h3, h4⟩ := hS5l b hb
                refine ⟨by omega, by simp; omega, fun e => ?_⟩
                have := (HS4.out.hP.own e).2
                omega)
              have H1 := Lib.hid h1
              have HOX : Hid (O = o'.pre ((t.app (lits (cut s f p) .nil)).app t5)) := Lib.hid (by rw [HO.out, h2, Out.pre_pre])
              have HR5 := Lib.hid hr5
              clear hr5 hk5 h2 HP5 hpc5 hS5l h1 hrd5 k2 c0 c1 f1 k7 f7 k6 f6
              obtain ⟨k2, c0, c1, f1, k7, f7, k6, f6⟩ := HS5.out.cells
              go_wp2_with (at_builtin; refine wpList_push rfl _ _ rfl (w.heap.size + 3) _ (.slice A4 n4 c4) _ n4 rfl (HS5.out.hP.alloc _) _ 1 1 [.iface ud ux] rfl (Reads.one (cell_new1 _ _ _) (by simp)) S5 _ HPC.out HSL.out (by omega) (by have := HS5.out.hB; simp; omega) ?_; intro v6 w6 hP6 hK6; obtain ⟨A6, c6, rfl⟩ := hP6.form; have HP6 := Lib.hid hP6; have HK6 := Lib.hid (((Kp.refl (w.heap.size + 3) (fun _ => False) _).alloc HS5.out.hB _).trans hK6); clear k2 c0 c1 f1 k7 f7 k6 f6 hP6 hK6; obtain ⟨k2, c0, c1, f1, k7, f7, k6, f6⟩ := HS5.out.mid HF.out HK6.out)
              exact HEND.out q q _ _ (n4 + 1) o' _ ((HS5.out.laid HF.out HP6.out HK6.out).from HF.out q _ rfl) (by omega) hqs (by omega) (by rw [← HR5.out]; exact H1.out) (by rw [cut_nil]; simpa [lits] using HOX.out) (by omega)
            · obtain ⟨u, rfl, ⟨q, hr5⟩, hk5⟩ := HP5.out
              have HS5 := Lib.hid (HS4.out.call HF.out hk5 hr5)
              have HOE : Hid (O = .err no) := Lib.hid (by rw [HO.out, h2]; rfl)
              clear hr5 hk5 h2 HP5
              go_wp2
              go_ret2
              exact HS5.out.bad HOE.out
          -- >
        · have q2 : ((c.toNat : Int) == 36) = false := b8f h36
          by_cases hfin : (k = .quoted ∧ c = 34) ∨ (k = .braces ∧ c = 125)
          · have HOE : Hid (O = .ok (t.app (lits (cut s f p) .nil)) (s.drop (p + 1))) := Lib.hid (by
              have h1 := HRD.out.at_fin ((cls_at hlt).trans (by rw [← HC.out]; exact clsC_end hce h36 hfin))
              rw [HO.out, h1]; simp [Out.pre])
            -- <
            as_aux_lemma =>
              have HPL := Lib.hid (show p + 1 ≤ s.length from hlt)
              rcases hfin with ⟨rfl, h34⟩ | ⟨rfl, h125⟩
              case' inl =>
                have kk2 : ((kn : Int) == 2) = true := by rw [HKN.out]; rfl
                have q34 : ((c.toNat : Int) == 34) = true := b8t h34
                clear hce h36 h34
              case' inr =>
                have kk2 : ((kn : Int) == 2) = false := by rw [HKN.out]; rfl
                have kk1 : ((kn : Int) == 1) = true := by rw [HKN.out]; rfl
                have q125 : ((c.toNat : Int) == 125) = true := b8t h125
                clear hce h36 h125
              all_goals
                go_wp2_with fail
                refine (HS2.out.tell HF.out hfp hps (by omega)).mono ?_
                rintro y w4 ⟨rfl, v4, n4, hS4, hn4⟩
                obtain ⟨A4, c4, rfl⟩ := hS4.hP.form
                have HS4 := Lib.hid hS4
                clear hS4 k2 k7 c0 c1 c2 f1 f7
                obtain ⟨k2, c0, c1, f1, k7, f7, k6, f6⟩ := HS4.out.cells
                go_wp2
                go_ret2
                exact (HS4.out.at HF.out (p + 1) _ (by omega)).done HF.out (by omega) HPL.out HOE.out
            -- >
          · by_cases hpl : k = .quoted ∨ k = .doc ∨ (c ≠ 34 ∧ c ≠ 39)
            -- <
            as_aux_lemma =>
              · have HX := Lib.hid (step_lit hlt hfp (cls_plain hlt (fun h => hce (HC.out.trans h)) (fun h => h36 (HC.out.trans h)) (by rw [← HC.out]; exact hfin) (by rw [← HC.out]; exact hpl)) HRD.out HO.out)
                obtain ⟨o', h1, h2⟩ := HX.out
                have H1 := Lib.hid h1
                have H2 := Lib.hid h2
                clear h1 h2 HX
                cases k
                case' plain =>
                  have hcc : c ≠ 34 ∧ c ≠ 39 := by rcases hpl with h | h | h; cases h; cases h; exact h
                  have kk2 : ((kn : Int) == 2) = false := by rw [HKN.out]; rfl
                  have kk1 : ((kn : Int) == 1) = false := by rw [HKN.out]; rfl
                  have kg : decide (1 < (kn : Int)) = false := by rw [HKN.out]; rfl
                  have q34 : ((c.toNat : Int) != 34) = true := n8f hcc.1
                  have q39 : ((c.toNat : Int) != 39) = true := n8f hcc.2
                  clear hcc
                case' braces =>
                  have hcc : c ≠ 34 ∧ c ≠ 39 := by rcases hpl with h | h | h; cases h; cases h; exact h
                  have kk2 : ((kn : Int) == 2) = false := by rw [HKN.out]; rfl
                  have kk1 : ((kn : Int) == 1) = true := by rw [HKN.out]; rfl
                  have kg : decide (1 < (kn : Int)) = false := by rw [HKN.out]; rfl
                  have q34 : ((c.toNat : Int) != 34) = true := n8f hcc.1
                  have q39 : ((c.toNat : Int) != 39) = true := n8f hcc.2
                  have q125 : ((c.toNat : Int) == 125) = false := b8f (fun h => hfin (.inr ⟨rfl, h⟩))
                  clear hcc
                case' quoted =>
                  have kk2 : ((kn : Int) == 2) = true := by rw [HKN.out]; rfl
                  have kk1 : ((kn : Int) == 1) = false := by rw [HKN.out]; rfl
                  have kg : decide (1 < (kn : Int)) = true := by rw [HKN.out]; rfl
                  have q34 : ((c.toNat : Int) == 34) = false := b8f (fun h => hfin (.inl ⟨rfl, h⟩))
                case' doc =>
                  have kk2 : ((kn : Int) == 2) = false := by rw [HKN.out]; rfl
                  have kk1 : ((kn : Int) == 1) = false := by rw [HKN.out]; rfl
                  have kg : decide (1 < (kn : Int)) = true := by rw [HKN.out]; rfl
                all_goals
                  clear hfin hpl hce h36
                  go_wp2
                  exact HEND.out (p + 1) f v t n o' _ (HS2.out.at HF.out (p + 1) _ (by omega)) (by omega) (by omega) hn H1.out H2.out (by omega)
            -- >
            · have hk : k = .plain ∨ k = .braces := by cases k; exact .inl rfl; exact .inr rfl; exact absurd (.inl rfl) hpl; exact absurd (.inr (.inl rfl)) hpl
              have kk2 : ((kn : Int) == 2) = false := by rw [HKN.out]; rcases hk with rfl | rfl <;> rfl
              have kg : decide (1 < (kn : Int)) = false := by rw [HKN.out]; rcases hk with rfl | rfl <;> rfl
              have hkc : ∃ x : Bool, ((kn : Int) == 1) = x ∧ (x = true → ((c.toNat : Int) == 125) = false) := ⟨_, rfl, fun h => b8f (fun h5 => hfin (.inr ⟨by rcases hk with rfl | rfl; (rw [HKN.out] at h; cases h); rfl, h5⟩))⟩
              obtain ⟨x1, kk1, hx1⟩ := hkc
              by_cases h34 : c = 34
              · have HPL0 := HPO
                clear HPL0
                -- <
                as_aux_lemma =>
                  have hcq : cls e k (s.drop p) = .quo (s.drop (p + 1)) := (cls_at hlt).trans (by rw [← HC.out]; exact clsC_dq (e := e) hce hk h34)
                  have HQ := Lib.hid (HRD.out.at_quo hcq)
                  have HRR : Hid (∀ wx Oq, Rdr wx rb s (p + 1) e → Rd e .quoted (s.drop (p + 1)) Oq → Calls Tryd.prog 31 #[.pointer (some ⟨rb, 0, none⟩), .int .i64 2] wx (ReadPost rb s e (p + 1) Oq wx)) := Lib.hid (fun wx Oq h1 h2 =>
                    HR.out (s.length - (p + 1)) (by have := HM.out; omega) .quoted s (p + 1) rb e Oq wx hs (by omega) (Nat.le_refl _) h1 h2)
                  have HPL := Lib.hid (show p + 1 ≤ s.length from hlt)
                  have q34 : ((c.toNat : Int) == 34) = true := b8t h34
                  have q34n : ((c.toNat : Int) != 34) = false := n8t h34
                  have q125 : ((c.toNat : Int) == 125) = false := b8f (show c ≠ 125 by rw [h34]; decide)
                  clear hcq hce h36 h34 hfin hpl hk hx1
                  cases x1
                  all_goals
                    go_wp2_with fail
                    refine (HS2.out.tell HF.out hfp hps (by omega)).mono ?_
                    rintro y w4 ⟨rfl, v4, n4, hS4, hn4⟩
                    obtain ⟨A4, c4, rfl⟩ := hS4.hP.form
                    have HS4 := Lib.hid hS4
                    clear hS4 k2 k7 c0 c1 c2 f1 f7
                    obtain ⟨k2, c0, c1, f1, k7, f7, k6, f6⟩ := HS4.out.cells
                    have HSA := Lib.hid (HS4.out.at HF.out (p + 1) ((p : Int) + 1) (by omega))
                    go_wp2_with fail
                    clear k2 c0 c1 f1 k7 f7 k6 f6
                    generalize w4.setCell ⟨rb, 1, none⟩ (.int .i64 ((p : Int) + 1)) = wA at HSA ⊢
                    rcases HQ.out with ⟨t5, r5, o', h1, h2, h3⟩ | ⟨no, h1, h3⟩
                    · have H2 := Lib.hid h2
                      have HOX : Hid (O = o'.pre ((t.app (lits (cut s f p) .nil)).app t5)) := Lib.hid (by rw [HO.out, h3, Out.pre_pre])
                      refine (HRR.out wA _ HSA.out.hr h1).mono ?_
                      rintro y w5 ⟨v5, n5, q, rfl, hP5, hn5, hq5, hr5, hrd5, hk5⟩
                      obtain ⟨A5, c5, rfl⟩ := hP5.form
                      obtain ⟨S5, vs5, ho5, hp5, hS5⟩ := hP5
                      have HS5 := Lib.hid (HSA.out.call HF.out hk5 hrd5)
                      have HRS : Hid (Reads w5 w5.heap.size 1 A5 n5 vs5) := Lib.hid (Reads.of_own ho5)
                      have HPC := Lib.hid hp5
                      have HSL : Hid (∀ b, S5 b → w.heap.size + 3 ≤ b ∧ b < w5.heap.size ∧ (Value.slice A4 n4 c4).ownBlock ≠ some b) := Lib.hid (fun b hb => by
                        obtain ⟨h3, h4, _⟩ := hS5 b hb
                        have hx5 := HSA.out.hB
                        refine ⟨by omega, by omega, fun e => ?_⟩
                        have := (HSA.out.hP.own e).2
                        omega)
                      have HR5 := Lib.hid hr5
                      clear hr5 hk5 h2 hp5 hS5 h1 hrd5 ho5 h3
                      obtain ⟨k2, c0, c1, f1, k7, f7, k6, f6⟩ := HS5.out.cells
                      go_wp2_with (at_builtin; refine wpList_push rfl _ _ rfl (w.heap.size + 3) _ (.slice A4 n4 c4) _ n4 rfl HS5.out.hP A5 n5 c5 vs5 rfl HRS.out S5 _ HPC.out HSL.out (by omega) (by have := HS5.out.hB; omega) ?_; intro v6 w6 hP6 hK6; obtain ⟨A6, c6, rfl⟩ := hP6.form; have HP6 := Lib.hid hP6; have HK6 := Lib.hid hK6; clear k2 c0 c1 f1 k7 f7 k6 f6 hP6 hK6; obtain ⟨k2, c0, c1, f1, k7, f7, k6, f6⟩ := HS5.out.mid HF.out HK6.out)
                      exact HEND.out q q _ _ (n4 + n5) o' _ ((HS5.out.laid HF.out HP6.out HK6.out).from HF.out q _ rfl) (by omega) hq5 (by omega) (by rw [← HR5.out]; exact H2.out) (by rw [cut_nil]; simpa [lits] using HOX.out) (by omega)
                    · have HOE : Hid (O = .err no) := Lib.hid (by rw [HO.out, h3]; rfl)
                      refine (HRR.out wA _ HSA.out.hr h1).mono ?_
                      rintro y w5 ⟨rfl, ⟨q, hrd5⟩, hk5⟩
                      have HS5 := Lib.hid (HSA.out.call HF.out hk5 hrd5)
                      clear hk5 h1 hrd5 h3
                      go_wp2
                      go_ret2
                      exact HS5.out.bad HOE.out
                -- >
              · have h39 : c = 39 := by
                  apply Classical.byContradiction; intro h; exact hpl (.inr (.inr ⟨h34, h⟩))
                obtain ⟨p1, hp1⟩ : ∃ p1, p1 = p + 1 := ⟨_, rfl⟩
                have hcq : cls e k (s.drop p) = clsQ (s.drop p1) := by rw [hp1]; exact (cls_at hlt).trans (by rw [← HC.out]; exact clsC_sq (e := e) hce hk h39)
                have hz1 : (p : Int) + 1 = p1 := by omega
                have HZ1 := Lib.hid hz1
                have hp1l : p1 ≤ s.length := by omega
                have hpp1 : p < p1 := by omega
                have q34 : ((c.toNat : Int) == 34) = false := b8f h34
                have q34n : ((c.toNat : Int) != 34) = true := n8f h34
                have q39n : ((c.toNat : Int) != 39) = false := n8t h39
                have q125 : ((c.toNat : Int) == 125) = false := b8f (show c ≠ 125 by rw [h39]; decide)
                have hsl1 := fun wx => run_slice_from_list Tryd.underlying9 s .i64 (p1 : Int) p1 rfl hp1l wx
                have HIX := Lib.hid (index_any (s.drop p1))
                have HRL : Hid ((s.drop p1).length = s.length - p1) := Lib.hid (List.length_drop ..)
                clear hp1 hz1 hce h36 h34 h39 hfin hpl hk hx1
                by_cases hq : q39 (s.drop p1) = (s.drop p1).length
                · as_aux_lemma =>
                    have HOE : Hid (O = .err 18) := Lib.hid (by
                      have h1 := HRD.out.at_fin (hcq.trans (by unfold clsQ; rw [if_pos hq]))
                      rw [HO.out, h1]; rfl)
                    rw [if_pos hq] at HIX
                    clear hq hcq
                    cases x1
                    all_goals
                      go_wp2_with fail
                      refine (HS2.out.tell HF.out hfp hps (by omega)).mono ?_
                      rintro y w4 ⟨rfl, v4, n4, hS4, hn4⟩
                      obtain ⟨A4, c4, rfl⟩ := hS4.hP.form
                      have HS4 := Lib.hid hS4
                      clear hS4 k2 k7 c0 c1 c2 f1 f7
                      obtain ⟨k2, c0, c1, f1, k7, f7, k6, f6⟩ := HS4.out.cells
                      have HSA := Lib.hid (HS4.out.at HF.out p1 ((p : Int) + 1) HZ1.out)
                      go_wp2_with fail
                      clear k2 c0 c1 f1 k7 f7 k6 f6
                      generalize w4.setCell ⟨rb, 1, none⟩ (.int .i64 ((p : Int) + 1)) = wA at HSA ⊢
                      obtain ⟨k2, c0, c1, f1, k7, f7, k6, f6⟩ := HSA.out.cells
                      go_quiet (exact Calls.quiet_of ((HIX.out _).mono (by rintro y w' ⟨rfl, rfl⟩; exact ⟨rfl, 0, rfl⟩)))
                      go_wp2
                      go_ret2
                      exact (HSA.out.drewN nq).bad HOE.out
                · as_aux_lemma =>
                    have hcl := hcq.trans (by unfold clsQ; rw [if_neg hq])
                    have hql : q39 (s.drop p1) < (s.drop p1).length := by have := (q39_app [] _ hq).2; exact this
                    obtain ⟨o', h1, h2⟩ := HRD.out.at_lit hcl
                    rw [if_neg hq] at HIX
                    obtain ⟨n1, hn1⟩ : ∃ n1, n1 = q39 (s.drop p1) := ⟨_, rfl⟩
                    rw [← hn1] at HIX hql h1 h2
                    have hnl : p1 + n1 + 1 ≤ s.length := by have := HRL.out; omega
                    have HOX : Hid (O = o'.pre ((t.app (lits (cut s f p) .nil)).app (lits (cut s p1 (p1 + n1)) .nil))) := Lib.hid (by
                      rw [HO.out, h2, Out.pre_pre]; unfold cut; rw [show p1 + n1 - p1 = n1 by omega])
                    have H1 : Hid (Rd e k (s.drop (p1 + n1 + 1)) o') := Lib.hid (by rw [List.drop_drop] at h1; exact h1)
                    have hsl2 := fun wx => run_slice_list Tryd.underlying9 s .i64 .i64 (p1 : Int) ((p1 : Int) + (n1 : Int)) p1 (p1 + n1) rfl (by omega) (by omega) (by omega) wx
                    rw [show (s.drop p1).take (p1 + n1 - p1) = cut s p1 (p1 + n1) from rfl] at hsl2
                    generalize cut s p1 (p1 + n1) = u at hsl2 HOX
                    have hi1 : IntKind.i64.wrap ((p1 : Int) + (n1 : Int)) = (p1 : Int) + (n1 : Int) := IntWalk.i64_in _ (by omega)
                    clear hq hcq hn1 h1 h2 hql hcl
                    have HW1 := Lib.hid hi1
                    clear hi1
                    cases x1
                    all_goals
                      go_wp2_with fail
                      refine (HS2.out.tell HF.out hfp hps (by omega)).mono ?_
                      rintro y w4 ⟨rfl, v4, n4, hS4, hn4⟩
                      obtain ⟨A4, c4, rfl⟩ := hS4.hP.form
                      have HS4 := Lib.hid hS4
                      clear hS4 k2 k7 c0 c1 c2 f1 f7
                      obtain ⟨k2, c0, c1, f1, k7, f7, k6, f6⟩ := HS4.out.cells
                      have HSA := Lib.hid (HS4.out.at HF.out p1 ((p : Int) + 1) HZ1.out)
                      go_wp2_with fail
                      clear k2 c0 c1 f1 k7 f7 k6 f6
                      generalize w4.setCell ⟨rb, 1, none⟩ (.int .i64 ((p : Int) + 1)) = wA at HSA ⊢
                      obtain ⟨k2, c0, c1, f1, k7, f7, k6, f6⟩ := HSA.out.cells
                      go_quiet (exact Calls.quiet_of ((HIX.out _).mono (by rintro y w' ⟨rfl, rfl⟩; exact ⟨rfl, 0, rfl⟩)))
                      have HSB := Lib.hid (HSA.out.drewN nq)
                      clear k2 c0 c1 f1 k7 f7 k6 f6
                      generalize wA.drewN nq = wB at HSB ⊢
                      go_wp2_with fail
                      have HSD := Lib.hid HSB.out.drew
                      have HMD := Lib.hid (fun wy (hk : Kp (w.heap.size + 3) (fun _ => False) wB.drew wy) => HSD.out.mid HF.out hk)
                      have hi1 := HW1.out
                      have hi2 : (0 : Int) ≤ (p1 : Int) := by omega
                      have hi3 : (p1 : Int) ≤ (p1 : Int) + (n1 : Int) := by omega
                      refine wp_region_R (S := (fun wy => wy.cell? ⟨w.heap.size, 0, none⟩ = some (.pointer (some ⟨rb, 0, none⟩)) ∧ wy.cell? ⟨rb, 0, none⟩ = some (.string ⟨s.toArray⟩) ∧ wy.cell? ⟨rb, 1, none⟩ = some (.int .i64 p1) ∧ wy.frozen? ⟨rb, 1, none⟩ = false ∧ wy.cell? ⟨w.heap.size + 2, 0, none⟩ = some (.int .i64 f) ∧ wy.frozen? ⟨w.heap.size + 2, 0, none⟩ = false ∧ wy.cell? ⟨w.heap.size + 1, 0, none⟩ = some (.slice A4 n4 c4) ∧ wy.frozen? ⟨w.heap.size + 1, 0, none⟩ = false)) 19 (by kernel_rfl) (HMD.out _ (Kp.refl _ _ _)) (fun hHeld => ?_)
                      refine wpAnyR_take (i := 0) (oi := { dst := some 188, op := Op.load 58 (Operand.tmp 6), type := 58, pos := "expand.go:137", after := #[], guard := none }) (v := _) (by kernel_rfl) rfl (by kernel_rfl) (by kernel_rfl) (by kernel_rfl) (fun _ _ _ h => h) (Or.inl ⟨by rfl, by intro w hSw; (try dsimp only at hSw); go_simp <;> with_reducible rfl⟩) (by assumption) ?_
                      try simp only [Act.put, List.setIfInBounds_toArray, List.set_cons_zero, List.set_cons_succ]
                      refine wpAnyR_take (i := 1) (oi := { dst := some 189, op := Op.load 55 (Operand.tmp 2), type := 55, pos := "expand.go:137", after := #[], guard := none }) (v := _) (by kernel_rfl) rfl (by kernel_rfl) (by kernel_rfl) (by kernel_rfl) (fun _ _ _ h => h) (Or.inl ⟨by rfl, by intro w hSw; (try dsimp only at hSw); go_simp <;> with_reducible rfl⟩) (by assumption) ?_
                      try simp only [Act.put, List.setIfInBounds_toArray, List.set_cons_zero, List.set_cons_succ]
                      refine wpAnyR_take (i := 2) (oi := { dst := some 190, op := Op.nilCheck (Operand.tmp 189), type := 0, pos := "expand.go:137", after := #[{ on := 1, ground := Ground.data }], guard := none }) (v := _) (by kernel_rfl) rfl (by kernel_rfl) (by kernel_rfl) (by kernel_rfl) (fun _ _ _ h => h) (Or.inl ⟨by rfl, by intro w hSw; (try dsimp only at hSw); go_simp <;> with_reducible rfl⟩) (by assumption) ?_
                      try simp only [Act.put, List.setIfInBounds_toArray, List.set_cons_zero, List.set_cons_succ]
                      refine wpAnyR_take (i := 3) (oi := { dst := some 191, op := Op.fieldAddr 57 (Operand.tmp 190) 0, type := 0, pos := "expand.go:137", after := #[{ on := 2, ground := Ground.data }], guard := none }) (v := _) (by kernel_rfl) rfl (by kernel_rfl) (by kernel_rfl) (by kernel_rfl) (fun _ _ _ h => h) (Or.inl ⟨by rfl, by intro w hSw; (try dsimp only at hSw); go_simp <;> with_reducible rfl⟩) (by assumption) ?_
                      try simp only [Act.put, List.setIfInBounds_toArray, List.set_cons_zero, List.set_cons_succ]
                      refine wpAnyR_take (i := 4) (oi := { dst := some 192, op := Op.load 9 (Operand.tmp 191), type := 9, pos := "expand.go:137", after := #[{ on := 3, ground := Ground.data }], guard := none }) (v := _) (by kernel_rfl) rfl (by kernel_rfl) (by kernel_rfl) (by kernel_rfl) (fun _ _ _ h => h) (Or.inl ⟨by rfl, by intro w hSw; (try dsimp only at hSw); go_simp <;> with_reducible rfl⟩) (by assumption) ?_
                      try simp only [Act.put, List.setIfInBounds_toArray, List.set_cons_zero, List.set_cons_succ]
                      refine wpAnyR_take (i := 5) (oi := { dst := some 193, op := Op.load 55 (Operand.tmp 2), type := 55, pos := "expand.go:137", after := #[], guard := none }) (v := _) (by kernel_rfl) rfl (by kernel_rfl) (by kernel_rfl) (by kernel_rfl) (fun _ _ _ h => h) (Or.inl ⟨by rfl, by intro w hSw; (try dsimp only at hSw); go_simp <;> with_reducible rfl⟩) (by assumption) ?_
                      try simp only [Act.put, List.setIfInBounds_toArray, List.set_cons_zero, List.set_cons_succ]
                      refine wpAnyR_take (i := 6) (oi := { dst := some 194, op := Op.nilCheck (Operand.tmp 193), type := 0, pos := "expand.go:137", after := #[{ on := 5, ground := Ground.data }], guard := none }) (v := _) (by kernel_rfl) rfl (by kernel_rfl) (by kernel_rfl) (by kernel_rfl) (fun _ _ _ h => h) (Or.inl ⟨by rfl, by intro w hSw; (try dsimp only at hSw); go_simp <;> with_reducible rfl⟩) (by assumption) ?_
                      try simp only [Act.put, List.setIfInBounds_toArray, List.set_cons_zero, List.set_cons_succ]
                      refine wpAnyR_take (i := 7) (oi := { dst := some 195, op := Op.fieldAddr 57 (Operand.tmp 194) 1, type := 0, pos := "expand.go:137", after := #[{ on := 6, ground := Ground.data }], guard := none }) (v := _) (by kernel_rfl) rfl (by kernel_rfl) (by kernel_rfl) (by kernel_rfl) (fun _ _ _ h => h) (Or.inl ⟨by rfl, by intro w hSw; (try dsimp only at hSw); go_simp <;> with_reducible rfl⟩) (by assumption) ?_
                      try simp only [Act.put, List.setIfInBounds_toArray, List.set_cons_zero, List.set_cons_succ]
                      refine wpAnyR_take (i := 8) (oi := { dst := some 196, op := Op.load 3 (Operand.tmp 195), type := 3, pos := "expand.go:137", after := #[{ on := 7, ground := Ground.data }], guard := none }) (v := _) (by kernel_rfl) rfl (by kernel_rfl) (by kernel_rfl) (by kernel_rfl) (fun _ _ _ h => h) (Or.inl ⟨by rfl, by intro w hSw; (try dsimp only at hSw); go_simp <;> with_reducible rfl⟩) (by assumption) ?_
                      try simp only [Act.put, List.setIfInBounds_toArray, List.set_cons_zero, List.set_cons_succ]
                      refine wpAnyR_take (i := 9) (oi := { dst := some 197, op := Op.load 55 (Operand.tmp 2), type := 55, pos := "expand.go:137", after := #[], guard := none }) (v := _) (by kernel_rfl) rfl (by kernel_rfl) (by kernel_rfl) (by kernel_rfl) (fun _ _ _ h => h) (Or.inl ⟨by rfl, by intro w hSw; (try dsimp only at hSw); go_simp <;> with_reducible rfl⟩) (by assumption) ?_
                      try simp only [Act.put, List.setIfInBounds_toArray, List.set_cons_zero, List.set_cons_succ]
                      refine wpAnyR_take (i := 10) (oi := { dst := some 198, op := Op.nilCheck (Operand.tmp 197), type := 0, pos := "expand.go:137", after := #[{ on := 9, ground := Ground.data }], guard := none }) (v := _) (by kernel_rfl) rfl (by kernel_rfl) (by kernel_rfl) (by kernel_rfl) (fun _ _ _ h => h) (Or.inl ⟨by rfl, by intro w hSw; (try dsimp only at hSw); go_simp <;> with_reducible rfl⟩) (by assumption) ?_
                      try simp only [Act.put, List.setIfInBounds_toArray, List.set_cons_zero, List.set_cons_succ]
                      refine wpAnyR_take (i := 11) (oi := { dst := some 199, op := Op.fieldAddr 57 (Operand.tmp 198) 1, type := 0, pos := "expand.go:137", after := #[{ on := 10, ground := Ground.data }], guard := none }) (v := _) (by kernel_rfl) rfl (by kernel_rfl) (by kernel_rfl) (by kernel_rfl) (fun _ _ _ h => h) (Or.inl ⟨by rfl, by intro w hSw; (try dsimp only at hSw); go_simp <;> with_reducible rfl⟩) (by assumption) ?_
                      try simp only [Act.put, List.setIfInBounds_toArray, List.set_cons_zero, List.set_cons_succ]
                      refine wpAnyR_take (i := 12) (oi := { dst := some 200, op := Op.load 3 (Operand.tmp 199), type := 3, pos := "expand.go:137", after := #[{ on := 11, ground := Ground.data }], guard := none }) (v := _) (by kernel_rfl) rfl (by kernel_rfl) (by kernel_rfl) (by kernel_rfl) (fun _ _ _ h => h) (Or.inl ⟨by rfl, by intro w hSw; (try dsimp only at hSw); go_simp <;> with_reducible rfl⟩) (by assumption) ?_
                      try simp only [Act.put, List.setIfInBounds_toArray, List.set_cons_zero, List.set_cons_succ]
                      refine wpAnyR_take (i := 13) (oi := { dst := some 201, op := Op.move (Operand.tmp 14), type := 3, pos := "expand.go:137", after := #[], guard := none }) (v := _) (by kernel_rfl) rfl (by kernel_rfl) (by kernel_rfl) (by kernel_rfl) (fun _ _ _ h => h) (Or.inl ⟨by rfl, by intro w hSw; (try dsimp only at hSw); go_simp <;> with_reducible rfl⟩) (by assumption) ?_
                      try simp only [Act.put, List.setIfInBounds_toArray, List.set_cons_zero, List.set_cons_succ]
                      refine wpAnyR_take (i := 14) (oi := { dst := some 202, op := Op.binOp BinOp.add 3 (Operand.tmp 200) (Operand.tmp 201) 3, type := 3, pos := "expand.go:137", after := #[{ on := 12, ground := Ground.data }, { on := 13, ground := Ground.data }], guard := none }) (v := _) (by kernel_rfl) rfl (by kernel_rfl) (by kernel_rfl) (by kernel_rfl) (fun _ _ _ h => h) (Or.inl ⟨by rfl, by intro w hSw; (try dsimp only at hSw); go_simp <;> with_reducible rfl⟩) (by assumption) ?_
                      try simp only [Act.put, List.setIfInBounds_toArray, List.set_cons_zero, List.set_cons_succ]
                      refine wpAnyR_take (i := 15) (oi := { dst := some 203, op := Op.slice 9 (Operand.tmp 192) (some (Operand.tmp 196)) (some (Operand.tmp 202)) none, type := 9, pos := "expand.go:137", after := #[{ on := 4, ground := Ground.data }, { on := 8, ground := Ground.data }, { on := 14, ground := Ground.data }], guard := none }) (v := _) (by kernel_rfl) rfl (by kernel_rfl) (by kernel_rfl) (by kernel_rfl) (fun _ _ _ h => h) (Or.inl ⟨by rfl, by intro w hSw; (try dsimp only at hSw); go_simp <;> with_reducible rfl⟩) (by assumption) ?_
                      try simp only [Act.put, List.setIfInBounds_toArray, List.set_cons_zero, List.set_cons_succ]
                      refine wpAnyR_take (i := 16) (oi := { dst := some 204, op := Op.makeInterface 100 (Operand.tmp 203), type := 62, pos := "expand.go:137", after := #[{ on := 15, ground := Ground.data }], guard := none }) (v := _) (by kernel_rfl) rfl (by kernel_rfl) (by kernel_rfl) (by kernel_rfl) (fun _ _ _ h => h) (Or.inl ⟨by rfl, by intro w hSw; (try dsimp only at hSw); go_simp <;> with_reducible rfl⟩) (by assumption) ?_
                      try simp only [Act.put, List.setIfInBounds_toArray, List.set_cons_zero, List.set_cons_succ]
                      refine wpAnyR_one (i := 17) (o := { dst := some 205, op := Op.buildSlice 58 1 #[(0, Operand.tmp 204)], type := 58, pos := "expand.go:137", after := #[{ on := 16, ground := Ground.data }], guard := none }) (by kernel_rfl) rfl (fun K hK => ?_)
                      rw [if_pos (by rfl)]
                      go_simp
                      refine hK.out _ _ (fun _ => HMD.out _ ((Kp.refl _ _ _).alloc HSD.out.hB _)) (fun hHeld => ?_)
                      try simp only [Act.put, List.setIfInBounds_toArray, List.set_cons_zero, List.set_cons_succ]
                      refine wpAnyR_one (i := 18) (o := { dst := some 206, op := Op.call { callee := Callee.builtin Builtin.append, args := #[Operand.tmp 188, Operand.tmp 205], argTypes := #[58, 58] }, type := 58, pos := "expand.go:137", after := #[{ on := 0, ground := Ground.data }, { on := 17, ground := Ground.data }], guard := none }) (by kernel_rfl) rfl (fun K hK => ?_)
                      refine step_push rfl _ _ rfl (w.heap.size + 3) _ (.slice A4 n4 c4) _ n4 rfl (HSD.out.hP.alloc _) _ 1 1 [litV u] rfl (Reads.one (cell_new1 _ _ _) (by simp)) (fun _ => False) _ (Pcs.one_lit _ _ u) (fun _ h => h.elim) (by omega) (by have := HSD.out.hB; simp at this ⊢; omega) ?_
                      intro v6 w6 hP6 hK6
                      obtain ⟨A6, c6, rfl⟩ := hP6.form
                      have HP6 := Lib.hid hP6
                      have HK6 := Lib.hid (((Kp.refl (w.heap.size + 3) (fun _ => False) _).alloc HSD.out.hB _).trans hK6)
                      clear hP6 hK6
                      refine hK.out _ _ (fun _ => HMD.out _ HK6.out) (fun hHeld => ?_)
                      obtain ⟨k2, c0, c1, f1, k7, f7, k6, f6⟩ := hHeld (by decide)
                      clear hHeld
                      try simp only [Act.put, List.setIfInBounds_toArray, List.set_cons_zero, List.set_cons_succ]
                      refine wpAnyR_one (i := 19) (o := { dst := none, op := Op.store 58 (Operand.tmp 6) (Operand.tmp 206), type := 0, pos := "expand.go:137", after := #[{ on := 18, ground := Ground.data }, { on := 18, ground := Ground.chain }, { on := 0, ground := Ground.phase }, { on := 1, ground := Ground.phase }, { on := 2, ground := Ground.phase }, { on := 3, ground := Ground.phase }, { on := 4, ground := Ground.phase }, { on := 5, ground := Ground.phase }, { on := 6, ground := Ground.phase }, { on := 7, ground := Ground.phase }, { on := 8, ground := Ground.phase }, { on := 9, ground := Ground.phase }, { on := 10, ground := Ground.phase }, { on := 11, ground := Ground.phase }, { on := 12, ground := Ground.phase }, { on := 13, ground := Ground.phase }, { on := 14, ground := Ground.phase }, { on := 15, ground := Ground.phase }, { on := 16, ground := Ground.phase }, { on := 17, ground := Ground.phase }, { on := 18, ground := Ground.phase }], guard := none }) (by kernel_rfl) rfl (fun K hK => ?_)
                      rw [if_pos (by rfl)]
                      go_simp
                      refine hK.out _ _ (fun h => absurd rfl h) (fun _ => ?_)
                      try simp only [Act.put, List.setIfInBounds_toArray, List.set_cons_zero, List.set_cons_succ]
                      refine wpAnyR_done (by kernel_rfl) ?_ _
                      all_goals
                        clear hi1 hi2 hi3
                        go_wp2
                        exact HEND.out (p1 + n1 + 1) (p1 + n1 + 1) _ _ (n4 + 1) o' _ (((HSD.out.laid HF.out HP6.out HK6.out).at HF.out (p1 + n1 + 1) _ (by omega)).from HF.out (p1 + n1 + 1) _ (by omega)) (by omega) hnl (by omega) H1.out (by rw [cut_nil]; simpa [lits] using HOX.out) (by omega)
    · as_aux_lemma =>
        have hpe : p = s.length := by omega
        have q0 : decide ((p : Int) < (s.length : Int)) = false := by rw [decide_eq_false_iff_not]; omega
        have hdr : s.drop p = [] := by rw [hpe]; exact List.drop_length
        have hfin : o = ends k := HRD.out.at_fin (by rw [hdr]; rfl)
        have HPE := Lib.hid hpe
        have HFN := Lib.hid hfin
        have HDR := Lib.hid hdr
        clear hpe hdr hfin
        go_wp2_with fail
        go_quiet (fail)
        have HS1 := Lib.hid (HS.out.drewN nq)
        clear k2 k7 c0 c1
        generalize wr.drewN nq = w1 at HS1 ⊢
        cases k
        case' plain =>
          have kk2 : ((kn : Int) == 2) = false := by rw [HKN.out]; rfl
          have kk1 : ((kn : Int) == 1) = false := by rw [HKN.out]; rfl
          have HOE : Hid (O = .ok (t.app (lits (cut s f p) .nil)) (s.drop p)) := Lib.hid (by rw [HO.out, HFN.out, HDR.out]; simp [Out.pre, ends])
        case' doc =>
          have kk2 : ((kn : Int) == 2) = false := by rw [HKN.out]; rfl
          have kk1 : ((kn : Int) == 1) = false := by rw [HKN.out]; rfl
          have HOE : Hid (O = .ok (t.app (lits (cut s f p) .nil)) (s.drop p)) := Lib.hid (by rw [HO.out, HFN.out, HDR.out]; simp [Out.pre, ends])
        case braces =>
          have kk2 : ((kn : Int) == 2) = false := by rw [HKN.out]; rfl
          have kk1 : ((kn : Int) == 1) = true := by rw [HKN.out]; rfl
          have HOE : Hid (O = .err 4) := Lib.hid (by rw [HO.out, HFN.out]; rfl)
          go_wp2
          go_ret2
          exact HS1.out.bad HOE.out
        case quoted =>
          have kk2 : ((kn : Int) == 2) = true := by rw [HKN.out]; rfl
          have HOE : Hid (O = .err 18) := Lib.hid (by rw [HO.out, HFN.out]; rfl)
          go_wp2
          go_ret2
          exact HS1.out.bad HOE.out
        all_goals
          go_wp2_with fail
          refine (HS1.out.tell HF.out hfp hps (by omega)).mono ?_
          rintro y w4 ⟨rfl, v4, n4, hS4, hn4⟩
          obtain ⟨A4, c4, rfl⟩ := hS4.hP.form
          have HS4 := Lib.hid hS4
          clear hS4
          obtain ⟨k2, c0, c1, f1, k7, f7, k6, f6⟩ := HS4.out.cells
          go_wp2
          go_ret2
          exact HS4.out.done HF.out (by omega) hps HOE.out
theorem read_all (m : Nat) : ReadC m := by
  induction m using Nat.strongRecOn with
  | ind m ih => exact read_step m (var_step m ih) ih
theorem read_any (k : K) (s : List UInt8) (rb : Nat) (e : UInt8) (O : Out) (w : World) (hs : s.length ≤ 4398046511104) (hr : Rdr w rb s 0 e) (h : Rd e k s O) :
    Calls Tryd.prog 31 #[.pointer (some ⟨rb, 0, none⟩), .int .i64 k.num] w (ReadPost rb s e 0 O w) :=
  read_all s.length k s 0 rb e O w hs (Nat.zero_le _) (by omega) hr (by simpa using h)
end Exp
end Go.Proofs.YtnmnhnhlggbijaaDoor
