/-
  Plain laws about the pieces of a text: their weight; that they weigh no more than the text. Reading, reckoned. No program in sight.
-/
import Derived.Test.YtnmnhnhlggbijaaDoorExpT
namespace Go.Proofs.YtnmnhnhlggbijaaDoor
namespace Exp
open T
def T.wt : T → Nat
  | .nil => 0
  | .lit s r => s.length + r.wt
  | .var n _ i r => n.length + 1 + i.wt + r.wt
theorem wt_lits (s : List UInt8) (t : T) : (lits s t).wt = s.length + t.wt := by
  induction s with
  | nil => simp [lits]
  | cons c s ih => simp [lits, T.wt, ih]; omega
theorem wt_app (a b : T) : (a.app b).wt = a.wt + b.wt := by
  induction a with
  | nil => simp [T.app, T.wt]
  | lit s r ih => simp [T.app, T.wt, ih]; omega
  | var n o i r _ ih => simp [T.app, T.wt, ih]; omega
/-- The pieces and what is left weigh no more than this. -/
def Out.Le (n : Nat) : Out → Prop
  | .ok t r => t.wt + r.length ≤ n
  | .err _ => True
def Cls.Lw (n : Nat) : Cls → Prop
  | .fin o => o.Le n
  | .lit p r => p.wt + r.length ≤ n
  | .quo r => r.length + 1 ≤ n
  | .var m _ r => m.length + 1 + r.length ≤ n
theorem Cls.Lw.more {n m : Nat} {c : Cls} (h : c.Lw n) (hm : n ≤ m) : c.Lw m := by
  cases c with
  | fin o => cases o with
    | ok t r => exact Nat.le_trans h hm
    | err _ => trivial
  | lit _ _ => exact Nat.le_trans h hm
  | quo _ => exact Nat.le_trans h hm
  | var _ _ _ => exact Nat.le_trans h hm
theorem clsEnd_lw (n s : List UInt8) : (clsEnd n s).Lw (n.length + 1 + s.length) := by
  cases s with
  | nil => trivial
  | cons c r =>
    simp only [clsEnd]
    split
    · show T.wt (.var n 0 .nil .nil) + r.length ≤ _; simp [T.wt]
    · split
      · cases r with
        | nil => trivial
        | cons o r' => simp only; split; (show n.length + 1 + r'.length ≤ _; simp; omega); trivial
      · trivial
theorem clsVar_lw (s : List UInt8) : (clsVar s).Lw (s.length + 1) := by
  unfold clsVar
  split
  · show T.wt (.var (name s) 0 .nil .nil) + (s.drop _).length ≤ _
    have := nl_le 0 s
    have := name_len s
    simp [T.wt]; omega
  · cases s with
    | nil => show T.wt (.lit [36] .nil) + 0 ≤ 1; simp [T.wt]
    | cons c q =>
      simp only
      split
      · unfold clsBr
        split
        · trivial
        · have := clsEnd_lw (name q) (q.drop (nl 0 q))
          refine this.more ?_
          have := nl_le 0 q
          have := name_len q
          simp; omega
      · show T.wt (.lit [36] .nil) + (c :: q).length ≤ _; simp [T.wt]; omega
theorem clsC_lw (e : UInt8) (k : K) (c : UInt8) (r : List UInt8) : (clsC e k c r).Lw (r.length + 1) := by
  unfold clsC
  split
  · cases r with
    | nil => show T.wt (.lit [c] .nil) + 0 ≤ 1; simp [T.wt]
    | cons d r' => simp only; split; (show T.wt (.lit [d] .nil) + r'.length ≤ _; simp [T.wt]; omega); (show T.wt (.lit [c] .nil) + (d :: r').length ≤ _; simp [T.wt]; omega)
  · split
    · exact clsVar_lw r
    · split
      · show T.wt .nil + r.length ≤ _; simp [T.wt]
      · split
        · show T.wt (.lit [c] .nil) + r.length ≤ _; simp [T.wt]; omega
        · split
          · show r.length + 1 ≤ _; omega
          · unfold clsQ
            split
            · trivial
            · show T.wt (lits (r.take (q39 r)) .nil) + (r.drop _).length ≤ _; rw [wt_lits]; simp [T.wt]; omega
theorem cls_lw (e : UInt8) (k : K) (s : List UInt8) : (cls e k s).Lw s.length := by
  cases s with
  | nil => cases k <;> first | trivial | (show T.wt .nil + 0 ≤ 0; simp [T.wt])
  | cons c r => exact clsC_lw e k c r
theorem Out.Le.pre {n m : Nat} {p : T} {o : Out} (h : o.Le n) (hm : p.wt + n ≤ m) : (o.pre p).Le m := by
  cases o with
  | ok t r => show (p.app t).wt + r.length ≤ m; rw [wt_app]; have : t.wt + r.length ≤ n := h; omega
  | err _ => trivial
theorem Rd.le {e : UInt8} {k : K} {s : List UInt8} {o : Out} (h : Rd e k s o) : o.Le s.length := by
  induction h with
  | fin hc => rename_i k s o; have h1 := cls_lw e k s; rw [hc] at h1; exact h1
  | lit hc _ ih => rename_i k s p r o _; have h1 := cls_lw e k s; rw [hc] at h1; exact ih.pre h1
  | quo hc _ _ ih1 ih2 => rename_i k s r t r' o _ _; have h1 := cls_lw e k s; rw [hc] at h1; exact ih2.pre (Nat.le_trans ih1 (Nat.le_of_succ_le h1))
  | quoE => trivial
  | var hc _ _ ih1 ih2 =>
    rename_i k s n q r t r' o _ _
    have h1 := cls_lw e k s; rw [hc] at h1
    have h2 : t.wt + r'.length ≤ r.length := ih1
    have h3 : n.length + 1 + r.length ≤ s.length := h1
    refine ih2.pre ?_
    simp [T.wt]; omega
  | varE => trivial
theorem Rd.wt {e : UInt8} {k : K} {s r : List UInt8} {t : T} (h : Rd e k s (.ok t r)) : t.wt ≤ s.length := by
  have : t.wt + r.length ≤ s.length := h.le
  omega
def OutNo : Out → Prop
  | .ok _ _ => True
  | .err no => no = 4 ∨ no = 18
def Cls.No : Cls → Prop
  | .fin o => OutNo o
  | _ => True
theorem clsEnd_no (n s : List UInt8) : (clsEnd n s).No := by
  cases s with
  | nil => exact .inl rfl
  | cons c r =>
    simp only [clsEnd]
    split
    · trivial
    · split
      · cases r with
        | nil => exact .inl rfl
        | cons o r' => simp only; split; trivial; exact .inl rfl
      · exact .inl rfl
theorem clsVar_no (s : List UInt8) : (clsVar s).No := by
  unfold clsVar
  split
  · trivial
  · cases s with
    | nil => trivial
    | cons c q =>
      simp only
      split
      · unfold clsBr
        split
        · exact .inl rfl
        · exact clsEnd_no _ _
      · trivial
theorem cls_no (e : UInt8) (k : K) (s : List UInt8) : (cls e k s).No := by
  cases s with
  | nil => cases k <;> first | trivial | exact .inl rfl | exact .inr rfl
  | cons c r =>
    show (clsC e k c r).No
    unfold clsC
    split
    · cases r with
      | nil => trivial
      | cons d r' => simp only; split <;> trivial
    · split
      · exact clsVar_no r
      · split
        · trivial
        · split
          · trivial
          · split
            · trivial
            · unfold clsQ
              split
              · exact .inr rfl
              · trivial
theorem OutNo.pre {p : T} {o : Out} (h : OutNo o) : OutNo (o.pre p) := by cases o <;> first | trivial | exact h
theorem Rd.outNo {e : UInt8} {k : K} {s : List UInt8} {o : Out} (h : Rd e k s o) : OutNo o := by
  induction h with
  | fin hc => rename_i k s o; have := cls_no e k s; rw [hc] at this; exact this
  | lit _ _ ih => exact ih.pre
  | quo _ _ _ _ ih => exact ih.pre
  | quoE _ _ ih => exact ih
  | var _ _ _ _ ih => exact ih.pre
  | varE _ _ ih => exact ih
theorem Rd.no {e : UInt8} {k : K} {s : List UInt8} {no : Nat} (h : Rd e k s (.err no)) : no = 4 ∨ no = 18 := h.outNo
/-- Reading, reckoned (as many steps as n). -/
def rd (e : UInt8) : Nat → K → List UInt8 → Option Out
  | 0, _, _ => none
  | n + 1, k, s => match cls e k s with
    | .fin o => some o
    | .lit p r => (rd e n k r).map (·.pre p)
    | .quo r => match rd e n .quoted r with
      | some (.ok t r') => (rd e n k r').map (·.pre t)
      | some (.err no) => some (.err no)
      | none => none
    | .var m q r => match rd e n .braces r with
      | some (.ok t r') => (rd e n k r').map (·.pre (.var m q t .nil))
      | some (.err no) => some (.err no)
      | none => none
theorem rd_is {e : UInt8} : ∀ (n : Nat) (k : K) (s : List UInt8) (o : Out), rd e n k s = some o → Rd e k s o
  | 0, _, _, _, h => by cases h
  | n + 1, k, s, o, h => by
    unfold rd at h
    split at h
    · rename_i o' hc; cases h; exact .fin hc
    · rename_i p r hc
      obtain ⟨o', h1, rfl⟩ := Option.map_eq_some_iff.1 h
      exact .lit hc (rd_is n k r o' h1)
    · rename_i r hc
      split at h
      · rename_i t r' h1
        obtain ⟨o', h2, rfl⟩ := Option.map_eq_some_iff.1 h
        exact .quo hc (rd_is n _ _ _ h1) (rd_is n _ _ _ h2)
      · rename_i no h1; cases h; exact .quoE hc (rd_is n _ _ _ h1)
      · cases h
    · rename_i m q r hc
      split at h
      · rename_i t r' h1
        obtain ⟨o', h2, rfl⟩ := Option.map_eq_some_iff.1 h
        exact .var hc (rd_is n _ _ _ h1) (rd_is n _ _ _ h2)
      · rename_i no h1; cases h; exact .varE hc (rd_is n _ _ _ h1)
      · cases h
end Exp
end Go.Proofs.YtnmnhnhlggbijaaDoor
