/-
  Plain facts about expanding a text: the pieces that stand in it, what they come to, the names in them. No program in sight.
-/
import Derived.Lib.Hide
namespace Go.Proofs.YtnmnhnhlggbijaaDoor
namespace Exp

/-- Pieces of a text, one behind the other: bytes as they stand; a variable with what stands in its braces. -/
inductive T where
  | nil
  | lit (s : List UInt8) (r : T)
  | var (n : List UInt8) (op : UInt8) (i : T) (r : T)
namespace T
def app : T → T → T
  | .nil, t => t
  | .lit s r, t => .lit s (r.app t)
  | .var n o i r, t => .var n o i (r.app t)
/-- Bytes, each a piece of its own. -/
def lits : List UInt8 → T → T
  | [], t => t
  | c :: s, t => .lit [c] (lits s t)
def flat : T → T
  | .nil => .nil
  | .lit s r => lits s r.flat
  | .var n o i r => .var n o i.flat r.flat
def len : T → Nat
  | .nil => 0
  | .lit _ r => r.len + 1
  | .var _ _ _ r => r.len + 1
/-- What pieces come to, where f tells a variable's value. -/
def val (f : List UInt8 → List UInt8) : T → List UInt8
  | .nil => []
  | .lit s r => s ++ r.val f
  | .var n o i r => (if o = 43 then (if f n = [] then [] else i.val f) else if o = 0 ∨ f n ≠ [] then f n else i.val f) ++ r.val f
/-- The names, in the order in which they begin. -/
def nms : T → List (List UInt8)
  | .nil => []
  | .lit _ r => r.nms
  | .var n _ i r => n :: (i.nms ++ r.nms)
@[simp] theorem app_nil (t : T) : t.app .nil = t := by induction t <;> simp_all [app]
theorem app_assoc (a b c : T) : (a.app b).app c = a.app (b.app c) := by induction a <;> simp_all [app]
theorem lits_app (s : List UInt8) (a b : T) : (lits s a).app b = lits s (a.app b) := by induction s <;> simp_all [lits, app]
theorem lits_append (s u : List UInt8) (a : T) : lits (s ++ u) a = lits s (lits u a) := by induction s <;> simp_all [lits]
theorem flat_lits (s : List UInt8) (a : T) : (lits s a).flat = lits s a.flat := by induction s <;> simp_all [lits, flat]
theorem flat_app (a b : T) : (a.app b).flat = a.flat.app b.flat := by induction a <;> simp_all [flat, app, lits_app]
theorem val_lits (f : List UInt8 → List UInt8) (s : List UInt8) (a : T) : (lits s a).val f = s ++ a.val f := by induction s <;> simp_all [lits, val]
theorem val_app (f : List UInt8 → List UInt8) (a b : T) : (a.app b).val f = a.val f ++ b.val f := by induction a <;> simp_all [app, val]
theorem val_flat (f : List UInt8 → List UInt8) (a : T) : a.flat.val f = a.val f := by induction a <;> simp_all [flat, val, val_lits]
theorem nms_lits (s : List UInt8) (a : T) : (lits s a).nms = a.nms := by induction s <;> simp_all [lits, nms]
theorem nms_app (a b : T) : (a.app b).nms = a.nms ++ b.nms := by induction a <;> simp_all [app, nms]
theorem nms_flat (a : T) : a.flat.nms = a.nms := by induction a <;> simp_all [flat, nms, nms_lits]
theorem len_app (a b : T) : (a.app b).len = a.len + b.len := by induction a <;> simp_all [app, len] <;> omega
theorem len_lits (s : List UInt8) (a : T) : (lits s a).len = s.length + a.len := by induction s <;> simp_all [lits, len] <;> omega
end T
open T

/-- The kinds of texts. -/
inductive K where
  | plain | braces | quoted | doc
  deriving DecidableEq
def K.num : K → Nat
  | .plain => 0 | .braces => 1 | .quoted => 2 | .doc => 3
/-- What reading comes to: the pieces and what is left, or what is wrong. -/
inductive Out where
  | ok (t : T) (r : List UInt8)
  | err (no : Nat)
def Out.pre (p : T) : Out → Out
  | .ok t r => .ok (p.app t) r
  | .err e => .err e
@[simp] theorem Out.pre_nil (o : Out) : o.pre .nil = o := by cases o <;> rfl
theorem Out.pre_pre (p q : T) (o : Out) : (o.pre q).pre p = o.pre (p.app q) := by cases o <;> simp [Out.pre, app_assoc]

def letter (c : UInt8) : Bool := (97 ≤ c && c ≤ 122) || (65 ≤ c && c ≤ 90) || c == 95
def digit (c : UInt8) : Bool := 48 ≤ c && c ≤ 57
/-- How many bytes the longest name has with which a text begins (k bytes of it were taken). -/
def nl : Nat → List UInt8 → Nat
  | _, [] => 0
  | k, c :: r => if letter c || (k > 0 && digit c) then nl (k + 1) r + 1 else 0
theorem nl_le (k : Nat) (s : List UInt8) : nl k s ≤ s.length := by
  induction s generalizing k with
  | nil => simp [nl]
  | cons c r ih => unfold nl; split <;> simp [ih]
def name (s : List UInt8) : List UInt8 := s.take (nl 0 s)
theorem name_len (s : List UInt8) : (name s).length = nl 0 s := by unfold name; rw [List.length_take]; have := nl_le 0 s; omega
/-- What stands next in a text. -/
inductive Cls where
  | fin (o : Out)
  | lit (p : T) (r : List UInt8)
  | quo (r : List UInt8)
  | var (n : List UInt8) (o : UInt8) (r : List UInt8)
def ends : K → Out
  | .plain => .ok .nil [] | .doc => .ok .nil [] | .quoted => .err 18 | .braces => .err 4
def esc1 (e : UInt8) : K → UInt8 → Bool
  | .quoted, c => c == 34 || c == 36 || c == e
  | .doc, c => c == 36 || c == e
  | _, _ => true
def clsEnd (n : List UInt8) : List UInt8 → Cls
  | [] => .fin (.err 4)
  | c :: r => if c = 125 then .lit (.var n 0 .nil .nil) r else if c = 58 then (match r with | [] => .fin (.err 4) | o :: r' => if o = 45 ∨ o = 43 then .var n o r' else .fin (.err 4)) else .fin (.err 4)
def clsBr (q : List UInt8) : Cls := if nl 0 q = 0 then .fin (.err 4) else clsEnd (name q) (q.drop (nl 0 q))
def clsVar (r : List UInt8) : Cls :=
  if nl 0 r ≠ 0 then .lit (.var (name r) 0 .nil .nil) (r.drop (nl 0 r))
  else match r with
    | [] => .lit (.lit [36] .nil) r
    | c :: q => if c = 123 then clsBr q else .lit (.lit [36] .nil) r
/-- How many bytes stand ahead of the next '. -/
def q39 : List UInt8 → Nat
  | [] => 0
  | c :: r => if c = 39 then 0 else q39 r + 1
def clsQ (r : List UInt8) : Cls := if q39 r = r.length then .fin (.err 18) else .lit (lits (r.take (q39 r)) .nil) (r.drop (q39 r + 1))
def clsC (e : UInt8) (k : K) (c : UInt8) (r : List UInt8) : Cls :=
  if c = e then (match r with | [] => .lit (.lit [c] .nil) [] | d :: r' => if esc1 e k d then .lit (.lit [d] .nil) r' else .lit (.lit [c] .nil) r)
  else if c = 36 then clsVar r
  else if (k = .quoted ∧ c = 34) ∨ (k = .braces ∧ c = 125) then .fin (.ok .nil r)
  else if k = .quoted ∨ k = .doc ∨ (c ≠ 34 ∧ c ≠ 39) then .lit (.lit [c] .nil) r
  else if c = 34 then .quo r
  else clsQ r
def cls (e : UInt8) (k : K) : List UInt8 → Cls
  | [] => .fin (ends k)
  | c :: r => clsC e k c r
/-- Reading a text of a kind, up to its end. -/
inductive Rd (e : UInt8) : K → List UInt8 → Out → Prop
  | fin {k s o} : cls e k s = .fin o → Rd e k s o
  | lit {k s p r o} : cls e k s = .lit p r → Rd e k r o → Rd e k s (o.pre p)
  | quo {k s r t r' o} : cls e k s = .quo r → Rd e .quoted r (.ok t r') → Rd e k r' o → Rd e k s (o.pre t)
  | quoE {k s r no} : cls e k s = .quo r → Rd e .quoted r (.err no) → Rd e k s (.err no)
  | var {k s n q r t r' o} : cls e k s = .var n q r → Rd e .braces r (.ok t r') → Rd e k r' o → Rd e k s (o.pre (.var n q t .nil))
  | varE {k s n q r no} : cls e k s = .var n q r → Rd e .braces r (.err no) → Rd e k s (.err no)
theorem Rd.det {e : UInt8} {k : K} {s : List UInt8} {o o' : Out} (h : Rd e k s o) (h' : Rd e k s o') : o = o' := by
  induction h generalizing o' with
  | fin hc => cases h' <;> simp_all
  | lit hc _ ih =>
    cases h' with
    | lit hc' h2 => rw [hc] at hc'; cases hc'; rw [ih h2]
    | fin hc' => rw [hc] at hc'; cases hc'
    | quo hc' => rw [hc] at hc'; cases hc'
    | quoE hc' => rw [hc] at hc'; cases hc'
    | var hc' => rw [hc] at hc'; cases hc'
    | varE hc' => rw [hc] at hc'; cases hc'
  | quo hc _ _ ih1 ih2 =>
    cases h' with
    | quo hc' h1 h2 => rw [hc] at hc'; cases hc'; have := ih1 h1; cases this; rw [ih2 h2]
    | quoE hc' h1 => rw [hc] at hc'; cases hc'; have := ih1 h1; cases this
    | fin hc' => rw [hc] at hc'; cases hc'
    | lit hc' => rw [hc] at hc'; cases hc'
    | var hc' => rw [hc] at hc'; cases hc'
    | varE hc' => rw [hc] at hc'; cases hc'
  | quoE hc _ ih1 =>
    cases h' with
    | quo hc' h1 h2 => rw [hc] at hc'; cases hc'; have := ih1 h1; cases this
    | quoE hc' h1 => rw [hc] at hc'; cases hc'; exact ih1 h1
    | fin hc' => rw [hc] at hc'; cases hc'
    | lit hc' => rw [hc] at hc'; cases hc'
    | var hc' => rw [hc] at hc'; cases hc'
    | varE hc' => rw [hc] at hc'; cases hc'
  | var hc _ _ ih1 ih2 =>
    cases h' with
    | var hc' h1 h2 => rw [hc] at hc'; cases hc'; have := ih1 h1; cases this; rw [ih2 h2]
    | varE hc' h1 => rw [hc] at hc'; cases hc'; have := ih1 h1; cases this
    | fin hc' => rw [hc] at hc'; cases hc'
    | lit hc' => rw [hc] at hc'; cases hc'
    | quo hc' => rw [hc] at hc'; cases hc'
    | quoE hc' => rw [hc] at hc'; cases hc'
  | varE hc _ ih1 =>
    cases h' with
    | var hc' h1 h2 => rw [hc] at hc'; cases hc'; have := ih1 h1; cases this
    | varE hc' h1 => rw [hc] at hc'; cases hc'; exact ih1 h1
    | fin hc' => rw [hc] at hc'; cases hc'
    | lit hc' => rw [hc] at hc'; cases hc'
    | quo hc' => rw [hc] at hc'; cases hc'
    | quoE hc' => rw [hc] at hc'; cases hc'
/-- What is told of a text: what it comes to (at most 65536 bytes), or what is wrong. -/
def told (f : List UInt8 → List UInt8) : Out → List UInt8 × Nat
  | .err e => ([], e)
  | .ok t _ => if (t.val f).length ≤ 65536 then (t.val f, 0) else ([], 5)
/-- A name is added, if it isn't there. -/
def met (acc : List (List UInt8)) (n : List UInt8) : List (List UInt8) := if n ∈ acc then acc else acc ++ [n]
def mets (acc : List (List UInt8)) (l : List (List UInt8)) : List (List UInt8) := l.foldl met acc
def toldNames : Out → List (List UInt8)
  | .err _ => []
  | .ok t _ => mets [] t.nms
/-- A variable's value: the last pair's. -/
def valOf (vars : List (List UInt8 × List UInt8)) (n : List UInt8) : List UInt8 := vars.foldl (fun v p => if p.1 = n then p.2 else v) []
end Exp
end Go.Proofs.YtnmnhnhlggbijaaDoor
