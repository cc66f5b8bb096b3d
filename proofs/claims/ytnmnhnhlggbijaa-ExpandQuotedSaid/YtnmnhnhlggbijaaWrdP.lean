/-
  Plain facts about words of a line: a machine that reads byte by byte, and a text in quotes. No program in sight.
-/
import Derived.Lib.Hide
namespace Go.Proofs.Ytnmnhnhlggbijaa
namespace Wrd

def escOf (c : UInt8) : UInt8 := if c = 96 then 96 else 92
def blank (c : UInt8) : Bool := c == 32 || c == 9 || c == 13
/-- The machine: the words that were told, the state (0 between words, 1 within one, 2, 3 within a quote), where the word began, where the quote, the next place. -/
structure M where
  (out : List (Nat × List UInt8)) (st fr q i : Nat)
/-- A part of a text. -/
def cut (s : List UInt8) (a b : Nat) : List UInt8 := (s.drop a).take (b - a)
def inWord (s : List UInt8) (e c : UInt8) (x : M) : M :=
  if blank c then ⟨x.out ++ [(x.fr, cut s x.fr x.i)], 0, x.fr, x.q, x.i + 1⟩
  else if c = 39 then ⟨x.out, 2, x.fr, x.i, x.i + 1⟩
  else if c = 34 then ⟨x.out, 3, x.fr, x.i, x.i + 1⟩
  else if c = e then ⟨x.out, 1, x.fr, x.q, x.i + 2⟩
  else ⟨x.out, 1, x.fr, x.q, x.i + 1⟩
def stepC (s : List UInt8) (e c : UInt8) (x : M) : M :=
  if x.st = 0 then (if blank c then ⟨x.out, 0, x.fr, x.q, x.i + 1⟩ else inWord s e c ⟨x.out, 1, x.i, x.q, x.i⟩)
  else if x.st = 1 then inWord s e c x
  else if x.st = 2 then (if c = 39 then ⟨x.out, 1, x.fr, x.q, x.i + 1⟩ else ⟨x.out, 2, x.fr, x.q, x.i + 1⟩)
  else (if c = 34 then ⟨x.out, 1, x.fr, x.q, x.i + 1⟩ else if c = e then ⟨x.out, 3, x.fr, x.q, x.i + 2⟩ else ⟨x.out, 3, x.fr, x.q, x.i + 1⟩)
def step (s : List UInt8) (e : UInt8) (x : M) : M := stepC s e (s.getD x.i 0) x
section
variable {s : List UInt8} {e c : UInt8} {out : List (Nat × List UInt8)} {st fr q i : Nat}
theorem inWord_b (hb : blank c = true) : inWord s e c ⟨out, st, fr, q, i⟩ = ⟨out ++ [(fr, cut s fr i)], 0, fr, q, i + 1⟩ := by unfold inWord; rw [hb, if_pos rfl]
theorem inWord_39 (hb : blank c = false) (h : c = 39) : inWord s e c ⟨out, st, fr, q, i⟩ = ⟨out, 2, fr, i, i + 1⟩ := by unfold inWord; rw [hb, if_neg Bool.false_ne_true, if_pos h]
theorem inWord_34 (hb : blank c = false) (h1 : ¬ c = 39) (h : c = 34) : inWord s e c ⟨out, st, fr, q, i⟩ = ⟨out, 3, fr, i, i + 1⟩ := by unfold inWord; rw [hb, if_neg Bool.false_ne_true, if_neg h1, if_pos h]
theorem inWord_e (hb : blank c = false) (h1 : ¬ c = 39) (h2 : ¬ c = 34) (h : c = e) : inWord s e c ⟨out, st, fr, q, i⟩ = ⟨out, 1, fr, q, i + 2⟩ := by unfold inWord; rw [hb, if_neg Bool.false_ne_true, if_neg h1, if_neg h2, if_pos h]
theorem inWord_n (hb : blank c = false) (h1 : ¬ c = 39) (h2 : ¬ c = 34) (h : ¬ c = e) : inWord s e c ⟨out, st, fr, q, i⟩ = ⟨out, 1, fr, q, i + 1⟩ := by unfold inWord; rw [hb, if_neg Bool.false_ne_true, if_neg h1, if_neg h2, if_neg h]
theorem stepC_0b (hb : blank c = true) : stepC s e c ⟨out, 0, fr, q, i⟩ = ⟨out, 0, fr, q, i + 1⟩ := by simp [stepC, hb]
theorem stepC_0w (hb : blank c = false) : stepC s e c ⟨out, 0, fr, q, i⟩ = inWord s e c ⟨out, 1, i, q, i⟩ := by simp [stepC, hb]
theorem stepC_1 : stepC s e c ⟨out, 1, fr, q, i⟩ = inWord s e c ⟨out, 1, fr, q, i⟩ := by simp [stepC]
theorem stepC_2q (h : c = 39) : stepC s e c ⟨out, 2, fr, q, i⟩ = ⟨out, 1, fr, q, i + 1⟩ := by simp [stepC, h]
theorem stepC_2n (h : ¬ c = 39) : stepC s e c ⟨out, 2, fr, q, i⟩ = ⟨out, 2, fr, q, i + 1⟩ := by simp [stepC, h]
theorem stepC_3q (h : c = 34) : stepC s e c ⟨out, 3, fr, q, i⟩ = ⟨out, 1, fr, q, i + 1⟩ := by simp [stepC, h]
theorem stepC_3e (h1 : ¬ c = 34) (h : c = e) : stepC s e c ⟨out, 3, fr, q, i⟩ = ⟨out, 3, fr, q, i + 2⟩ := by subst h; simp [stepC, h1]
theorem stepC_3n (h1 : ¬ c = 34) (h : ¬ c = e) : stepC s e c ⟨out, 3, fr, q, i⟩ = ⟨out, 3, fr, q, i + 1⟩ := by simp [stepC, h1, h]
end
def run (s : List UInt8) (e : UInt8) : Nat → M → M
  | 0, x => x
  | n + 1, x => if x.i < s.length then run s e n (step s e x) else x
/-- What is told at the end: the words, or the place of a quote without an end. -/
def told (s : List UInt8) (x : M) : Except Nat (List (Nat × List UInt8)) :=
  if x.st = 0 then .ok x.out else if x.st = 1 then .ok (x.out ++ [(x.fr, s.drop x.fr)]) else .error x.q
def fin (s : List UInt8) (e : UInt8) (x : M) : Except Nat (List (Nat × List UInt8)) := told s (run s e (s.length - x.i) x)
def split (s : List UInt8) (c : UInt8) : Except Nat (List (Nat × List UInt8)) := fin s (escOf c) ⟨[], 0, 0, 0, 0⟩

theorem inWord_i (s : List UInt8) (e c : UInt8) (x : M) : x.i + 1 ≤ (inWord s e c x).i ∧ (inWord s e c x).i ≤ x.i + 2 := by
  unfold inWord; repeat' split
  all_goals simp
theorem step_i (s : List UInt8) (e : UInt8) (x : M) : x.i + 1 ≤ (step s e x).i ∧ (step s e x).i ≤ x.i + 2 := by
  unfold step
  generalize s.getD x.i 0 = c
  unfold stepC
  repeat' split
  all_goals first | exact inWord_i s e c ⟨x.out, 1, x.i, x.q, x.i⟩ | exact inWord_i s e c x | (constructor <;> simp)
theorem run_more (s : List UInt8) (e : UInt8) : ∀ (n : Nat) (x : M), s.length - x.i ≤ n → run s e n x = run s e (s.length - x.i) x
  | 0, x, h => by rw [show s.length - x.i = 0 by omega]
  | n + 1, x, h => by
    by_cases hx : x.i < s.length
    · have hi := step_i s e x
      obtain ⟨m, hm⟩ : ∃ m, s.length - x.i = m + 1 := ⟨s.length - x.i - 1, by omega⟩
      rw [hm, run, if_pos hx, run, if_pos hx, run_more s e n _ (by omega), run_more s e m _ (by omega)]
    · rw [run, if_neg hx, show s.length - x.i = 0 by omega, run]
theorem fin_step {s : List UInt8} {e : UInt8} {x : M} (h : x.i < s.length) : fin s e x = fin s e (step s e x) := by
  have hi := step_i s e x
  unfold fin
  obtain ⟨m, hm⟩ : ∃ m, s.length - x.i = m + 1 := ⟨s.length - x.i - 1, by omega⟩
  rw [hm, run, if_pos h, run_more s e m _ (by omega)]
theorem fin_done {s : List UInt8} {e : UInt8} {x : M} (h : ¬ x.i < s.length) : fin s e x = told s x := by
  unfold fin; rw [show s.length - x.i = 0 by omega]; rfl

/-- A text in quotes. -/
def plainB (c : UInt8) : Bool := (97 ≤ c && c ≤ 122) || (65 ≤ c && c ≤ 90) || (48 ≤ c && c ≤ 57) || [95, 45, 46, 47, 58, 44, 43, 61, 64, 37].contains c
def bare (s : List UInt8) : Bool := !s.isEmpty && s.all plainB
def needs (e c : UInt8) : Bool := decide (c = 34 ∨ c = 36 ∨ c = e)
def esc1 (e c : UInt8) : List UInt8 := if c = 34 ∨ c = 36 ∨ c = e then [e, c] else [c]
theorem esc1_yes {e c : UInt8} (h : c = 34 ∨ c = 36 ∨ c = e) : (esc1 e c).dropLast = [e] := by unfold esc1; rw [if_pos h]; rfl
theorem esc1_no {e c : UInt8} (h : ¬ (c = 34 ∨ c = 36 ∨ c = e)) : (esc1 e c).dropLast = [] := by unfold esc1; rw [if_neg h]; rfl
theorem esc_len (e : UInt8) (l : List UInt8) : (l.flatMap (esc1 e)).length ≤ 2 * l.length := by
  induction l with
  | nil => simp
  | cons c l ih =>
    rw [List.flatMap_cons, List.length_append, List.length_cons]
    have : (esc1 e c).length ≤ 2 := by unfold esc1; split <;> simp
    omega
theorem all8 {P : UInt8 → Prop} (h : ∀ n : Fin 256, P (UInt8.ofNat n.val)) (c : UInt8) : P c := by
  have := h ⟨c.toNat, c.toNat_lt⟩
  simpa using this
def quoted (e : UInt8) (s : List UInt8) : List UInt8 := 34 :: s.flatMap (esc1 e) ++ [34]
def quote (s : List UInt8) (c : UInt8) : List UInt8 := if bare s then s else quoted (escOf c) s
end Wrd
end Go.Proofs.Ytnmnhnhlggbijaa
