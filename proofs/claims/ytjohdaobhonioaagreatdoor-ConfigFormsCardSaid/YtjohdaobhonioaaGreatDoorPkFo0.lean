/-
  Parts of the proof: JsPl.
-/
import Derived.Lib.ItoaNum
import Derived.Lib.ParseIntB
import Derived.Lib.ParseIntBCases
import Derived.Lib.ParseIntBTie
import Derived.Lib.ValidU
import Derived.Lib.ValidLaws
import Derived.Lib.Bytealg
import Derived.Sort.KeysCollected
import Derived.Lib.ItoaLen
namespace Go.Proofs.YtjohdaobhonioaaGreatDoor
namespace Js
structure Hd where
 kind : Int
 num : Int
 text : List UInt8
 keys : List (List UInt8)
 deriving DecidableEq
inductive F where
 | nil
 | cons (h : Hd) (kids rest : F)
 deriving DecidableEq
def F.len : F -> Nat
 | .nil => 0
 | .cons _ _ r => r.len + 1
def F.app : F -> F -> F
 | .nil, g => g
 | .cons h k r, g => .cons h k (r.app g)
theorem F.app_assoc (f g k : F) : (f.app g).app k = f.app (g.app k) := by induction f <;> simp_all [F.app]
theorem F.len_app (f g : F) : (f.app g).len = f.len + g.len := by induction f <;> simp_all [F.app, F.len] <;> omega
def blank (c : UInt8) : Bool := c == 32 || c == 9 || c == 10 || c == 13
def bl : List UInt8 -> List UInt8
 | [] => []
 | c :: r => if blank c then bl r else c :: r
theorem bl_suf (s : List UInt8) : ∃ x, s = x ++ bl s := by
 induction s with
 | nil => exact ⟨[], rfl⟩
 | cons c r ih =>
  unfold bl
  split
  . obtain ⟨x, hx⟩ := ih
    exact ⟨c :: x, by rw [List.cons_append, <- hx]⟩
  . exact ⟨[], rfl⟩
theorem bl_len (s : List UInt8) : (bl s).length ≤ s.length := by
 obtain ⟨x, hx⟩ := bl_suf s
 have := congrArg List.length hx
 rw [List.length_append] at this; omega
theorem bl_head {s : List UInt8} {c : UInt8} {r : List UInt8} (h : bl s = c :: r) : blank c = false := by
 induction s with
 | nil => cases h
 | cons d t ih =>
  unfold bl at h
  split at h
  . exact ih h
  . rename_i hb
    injection h with h1 _
    subst h1
    simpa using hb
theorem bl_bl (s : List UInt8) : bl (bl s) = bl s := by
 cases h : bl s with
 | nil => rfl
 | cons c r => unfold bl; rw [bl_head h]; rfl
inductive TO where
 | err (no : Nat) (rest : List UInt8)
 | ok (t rest : List UInt8)
 deriving DecidableEq
def TO.pre (b : List UInt8) : TO -> TO
 | .err no r => .err no r
 | .ok t r => .ok (b ++ t) r
theorem TO.pre_pre (a b : List UInt8) (o : TO) : (o.pre b).pre a = o.pre (a ++ b) := by cases o <;> simp [TO.pre]
theorem TO.pre_nil (o : TO) : o.pre [] = o := by cases o <;> rfl
inductive TS where
 | fin (rest : List UInt8)
 | err (no : Nat) (rest : List UInt8)
 | emit (b rest : List UInt8)
inductive U where
 | bad
 | short
 | val (v : Nat)
def hexd (c : UInt8) : Option Nat :=
 if 48 ≤ c.toNat /\ c.toNat ≤ 57 then some (c.toNat - 48) else if 97 ≤ c.toNat /\ c.toNat ≤ 102 then some (c.toNat - 87) else if 65 ≤ c.toNat /\ c.toNat ≤ 70 then some (c.toNat - 55) else none
theorem hexd_lt {c : UInt8} {d : Nat} (h : hexd c = some d) : d < 16 := by
 unfold hexd at h
 split at h
 . injection h; omega
 . split at h
   . injection h; omega
   . split at h
     . injection h; omega
     . cases h
def unitD : Nat -> Nat -> List UInt8 -> U
 | 0, v, _ => .val v
 | _ + 1, _, [] => .short
 | n + 1, v, c :: r => match hexd c with
  | none => .bad
  | some d => unitD n (16 * v + d) r
def unit : List UInt8 -> U
 | [] => .short
 | c :: r => if c = 92 then (match r with
  | [] => .short
  | d :: t => if d = 117 then unitD 4 0 t else .bad) else .bad
theorem unitD_val : ∀ (n v : Nat) (s : List UInt8) (u : Nat), unitD n v s = .val u -> n ≤ s.length /\ u < 16 ^ n * (v + 1) := by
 intro n
 induction n with
 | zero => intro v s u h; simp only [unitD] at h; injection h with h; subst h; exact ⟨by omega, by simp⟩
 | succ n ih =>
  intro v s u h
  cases s with
  | nil => simp [unitD] at h
  | cons c r =>
   unfold unitD at h
   cases hc : hexd c with
   | none => rw [hc] at h; cases h
   | some d =>
    rw [hc] at h
    obtain ⟨h1, h2⟩ := ih _ _ _ h
    have hd := hexd_lt hc
    refine ⟨by simp; omega, Nat.lt_of_lt_of_le h2 ?_⟩
    rw [Nat.pow_succ, Nat.mul_assoc]
    exact Nat.mul_le_mul_left _ (by omega)
theorem unit_val {s : List UInt8} {v : Nat} (h : unit s = .val v) : 6 ≤ s.length /\ v < 65536 := by
 unfold unit at h
 split at h
 . cases h
 . split at h
   . split at h
     . cases h
     . split at h
       . obtain ⟨h1, h2⟩ := unitD_val _ _ _ _ h
         exact ⟨by simp; omega, by simpa using h2⟩
       . cases h
   . cases h
def utf8 (c : Nat) : List UInt8 :=
 if c < 128 then [.ofNat c] else if c < 2048 then [.ofNat (192 + c / 64), .ofNat (128 + c % 64)] else if c < 65536 then [.ofNat (224 + c / 4096), .ofNat (128 + c / 64 % 64), .ofNat (128 + c % 64)]
 else [.ofNat (240 + c / 262144), .ofNat (128 + c / 4096 % 64), .ofNat (128 + c / 64 % 64), .ofNat (128 + c % 64)]
theorem utf8_len (c : Nat) : (utf8 c).length ≤ 4 := by unfold utf8; split <;> (try split) <;> (try split) <;> simp
theorem utf8_len3 {c : Nat} (h : c < 65536) : (utf8 c).length ≤ 3 := by unfold utf8; rw [if_pos h]; split <;> (try split) <;> simp
def simple (c : UInt8) : Option UInt8 :=
 if c = 34 then some 34 else if c = 92 then some 92 else if c = 47 then some 47 else if c = 98 then some 8 else if c = 102 then some 12 else if c = 110 then some 10 else if c = 114 then some 13 else if c = 116 then some 9 else none
def esc2 (s : List UInt8) (v : Nat) : TS := match unit (s.drop 6) with
 | .bad => .err 4 s
 | .short => .err 2 []
 | .val x => if 56320 ≤ x /\ x ≤ 57343 then .emit (utf8 (65536 + (v - 55296) * 1024 + (x - 56320))) (s.drop 12) else .err 4 s
def esc1 (s : List UInt8) : TS := match unit s with
 | .bad => .err 4 s
 | .short => .err 2 []
 | .val v => if v < 55296 ∨ 57343 < v then .emit (utf8 v) (s.drop 6) else if 56320 ≤ v then .err 4 s else esc2 s v
def esc (s : List UInt8) : TS := match s with
 | _ :: c :: r => (match simple c with
  | some b => .emit [b] r
  | none => esc1 s)
 | _ => .err 2 []
def tstep : List UInt8 -> TS
 | [] => .err 2 []
 | c :: r => if c = 34 then .fin r else if c.toNat < 32 then .err 4 (c :: r) else if c = 92 then esc (c :: r) else .emit [c] r
theorem tstep_cons (c : UInt8) (r : List UInt8) : tstep (c :: r) = if c = 34 then .fin r else if c.toNat < 32 then .err 4 (c :: r) else if c = 92 then esc (c :: r) else .emit [c] r := rfl
theorem esc2_emit {s b r : List UInt8} {v : Nat} (h : esc2 s v = .emit b r) : b.length + r.length ≤ s.length /\ r.length < s.length := by
 unfold esc2 at h
 split at h
 . cases h
 . cases h
 . rename_i x hx
   obtain ⟨h1, _⟩ := unit_val hx
   rw [List.length_drop] at h1
   split at h
   . injection h with h2 h3
     subst h2 h3
     have := utf8_len (65536 + (v - 55296) * 1024 + (x - 56320))
     rw [List.length_drop]; omega
   . cases h
theorem esc1_emit {s b r : List UInt8} (h : esc1 s = .emit b r) : b.length + r.length ≤ s.length /\ r.length < s.length := by
 unfold esc1 at h
 split at h
 . cases h
 . cases h
 . rename_i v hv
   obtain ⟨h1, h2⟩ := unit_val hv
   split at h
   . injection h with h3 h4
     subst h3 h4
     have := utf8_len3 h2
     rw [List.length_drop]; omega
   . split at h
     . cases h
     . exact esc2_emit h
theorem esc_emit {s b r : List UInt8} (h : esc s = .emit b r) : b.length + r.length ≤ s.length /\ r.length < s.length := by
 unfold esc at h
 split at h
 . split at h
   . injection h with h1 h2
     subst h1 h2
     simp; omega
   . exact esc1_emit h
 . cases h
theorem tstep_emit {s b r : List UInt8} (h : tstep s = .emit b r) : b.length + r.length ≤ s.length /\ r.length < s.length := by
 unfold tstep at h
 split at h
 . cases h
 . split at h
   . cases h
   . split at h
     . cases h
     . split at h
       . exact esc_emit h
       . injection h with h1 h2
         subst h1 h2
         simp; omega
theorem tstep_fin {s r : List UInt8} (h : tstep s = .fin r) : s = 34 :: r := by
 unfold tstep at h
 split at h
 . cases h
 . split at h
   . rename_i hc; injection h with h1; subst h1; rw [hc]
   . split at h
     . cases h
     . split at h
       . unfold esc esc1 esc2 at h
         repeat' split at h
         all_goals cases h
       . cases h
def txtF : Nat -> List UInt8 -> TO
 | 0, s => .err 0 s
 | n + 1, s => match tstep s with
  | .fin r => .ok [] r
  | .err no r => .err no r
  | .emit b r => (txtF n r).pre b
theorem txtF_more : ∀ (n : Nat) (s : List UInt8), s.length < n -> ∀ m, s.length < m -> txtF n s = txtF m s := by
 intro n
 induction n with
 | zero => intro s h; omega
 | succ n ih =>
  intro s h m hm
  cases m with
  | zero => omega
  | succ m =>
   unfold txtF
   cases ht : tstep s with
   | fin r => rfl
   | err no r => rfl
   | emit b r =>
    have := tstep_emit ht
    simp only
    rw [ih r (by omega) m (by omega)]
def txt (s : List UInt8) : TO := txtF (s.length + 1) s
theorem txt_eq (s : List UInt8) : txt s = match tstep s with
  | .fin r => .ok [] r
  | .err no r => .err no r
  | .emit b r => (txt r).pre b := by
 unfold txt
 rw [txtF]
 cases ht : tstep s with
 | fin r => rfl
 | err no r => rfl
 | emit b r =>
  have := tstep_emit ht
  simp only
  rw [txtF_more s.length r (by omega) (r.length + 1) (by omega)]
theorem txt_len : ∀ (n : Nat) (s t r : List UInt8), s.length ≤ n -> txt s = .ok t r -> t.length + r.length < s.length := by
 intro n
 induction n with
 | zero =>
  intro s t r h hx
  obtain rfl := List.length_eq_zero_iff.1 (Nat.le_zero.1 h)
  rw [txt_eq] at hx
  simp [tstep] at hx
 | succ n ih =>
  intro s t r h hx
  rw [txt_eq] at hx
  cases ht : tstep s with
  | fin q =>
   rw [ht] at hx
   injection hx with h1 h2
   subst h1 h2
   rw [tstep_fin ht]; simp
  | err no q => rw [ht] at hx; cases hx
  | emit b q =>
   rw [ht] at hx
   simp only at hx
   have hl := tstep_emit ht
   cases hq : txt q with
   | err no r2 => rw [hq] at hx; cases hx
   | ok t2 r2 =>
    rw [hq] at hx
    injection hx with h1 h2
    subst h1 h2
    have := ih q t2 r2 (by omega) hq
    rw [List.length_append]; omega
def numc (c : UInt8) : Bool := decide (48 ≤ c.toNat /\ c.toNat ≤ 57) || c == 45 || c == 43 || c == 46 || c == 101 || c == 69
def dval (l : List UInt8) : Nat := l.foldl (fun n c => 10 * n + (c.toNat - 48)) 0
def decI (z : Int) : List UInt8 := Lib.itoa z
def numV (m : List UInt8) : Int := match m with
 | [] => 0
 | c :: r => if c = 45 then -(dval r : Int) else (dval (c :: r) : Int)
def numOf (m : List UInt8) : Option Int := if decI (numV m) = m /\ -9223372036854775808 ≤ numV m /\ numV m ≤ 9223372036854775807 then some (numV m) else none
theorem dval_snoc (l : List UInt8) (c : UInt8) : dval (l ++ [c]) = 10 * dval l + (c.toNat - 48) := by simp [dval]
theorem dval_dec (n : Nat) : dval (Lib.decDigits n) = n := by
 induction n using Nat.strongRecOn with
 | _ n ih =>
  by_cases h : n < 10
  . rw [Lib.decDigits, dif_pos h]
    simp only [dval, List.foldl_cons, List.foldl_nil]
    rw [UInt8.toNat_ofNat']; omega
  . rw [Lib.decDigits, dif_neg h, dval_snoc, ih (n / 10) (by omega), UInt8.toNat_ofNat']
    omega
theorem dec_first (n : Nat) : ∃ c r, Lib.decDigits n = c :: r /\ 48 ≤ c.toNat /\ c.toNat ≤ 57 := by
 induction n using Nat.strongRecOn with
 | _ n ih =>
  by_cases h : n < 10
  . rw [Lib.decDigits, dif_pos h]
    exact ⟨_, [], rfl, by rw [UInt8.toNat_ofNat']; omega, by rw [UInt8.toNat_ofNat']; omega⟩
  . obtain ⟨c, r, h1, h2⟩ := ih (n / 10) (by omega)
    rw [Lib.decDigits, dif_neg h, h1]
    exact ⟨c, _, rfl, h2⟩
theorem numV_decI (z : Int) : numV (decI z) = z := by
 unfold decI Lib.itoa
 by_cases h : z < 0
 . rw [if_pos h]
   simp only [numV, if_true, dval_dec]; omega
 . rw [if_neg h]
   obtain ⟨c, r, h1, h2, h3⟩ := dec_first z.toNat
   have hd := dval_dec z.toNat
   rw [h1] at hd ⊢
   simp only [numV]
   rw [if_neg (by intro e; subst e; simp at h2), hd]; omega
theorem numOf_some {m : List UInt8} {z : Int} : numOf m = some z ↔ decI z = m /\ -9223372036854775808 ≤ z /\ z ≤ 9223372036854775807 := by
 unfold numOf
 constructor
 . intro h
   split at h
   . injection h with h; subst h; assumption
   . cases h
 . rintro ⟨h1, h2, h3⟩
   have e : numV m = z := by rw [<- h1, numV_decI]
   rw [e, if_pos ⟨h1, h2, h3⟩]
inductive Out where
 | err (no : Nat) (rest : List UInt8)
 | ok (h : Hd) (kids : F) (rest : List UInt8)
 deriving DecidableEq
def plainH (k : Int) : Hd := ⟨k, 0, [], []⟩
def TO.out : TO -> Out
 | .err no r => .err no r
 | .ok t r => .ok ⟨4, 0, t, []⟩ .nil r
def numOut (s : List UInt8) : Out := match numOf (s.takeWhile numc) with
 | some z => .ok ⟨3, z, [], []⟩ .nil (s.drop (s.takeWhile numc).length)
 | none => .err 4 s
def atom (s : List UInt8) : Option Out :=
 if [110, 117, 108, 108].isPrefixOf s then some (.ok (plainH 0) .nil (s.drop 4))
 else if [102, 97, 108, 115, 101].isPrefixOf s then some (.ok (plainH 1) .nil (s.drop 5))
 else if [116, 114, 117, 101].isPrefixOf s then some (.ok (plainH 2) .nil (s.drop 4))
 else match s with
  | [] => none
  | c :: r => if c = 34 then some (txt r).out else if c = 91 ∨ c = 123 then none else if c = 45 ∨ (48 ≤ c.toNat /\ c.toNat ≤ 57) then some (numOut s) else some (.err 4 s)
inductive Nx where
 | err (no : Nat) (rest : List UInt8)
 | fin (rest : List UInt8)
 | more (rest : List UInt8)
def nx (close : UInt8) (s : List UInt8) : Nx := match bl s with
 | [] => .err 2 []
 | c :: r => if c = 44 then .more r else if c = close then .fin r else .err 4 (c :: r)
def opn (close : UInt8) (s : List UInt8) : Option (List UInt8) := match bl s with
 | [] => none
 | c :: r => if c = close then some r else none
def colon (t s : List UInt8) : TO := match bl s with
 | [] => .err 2 []
 | c :: r => if c = 58 then .ok t r else .err 4 (c :: r)
def key (ks : List (List UInt8)) (s : List UInt8) : TO := match bl s with
 | [] => .err 2 []
 | c :: r => if c = 34 then (match txt r with
  | .err no q => .err no q
  | .ok t q => if t ∈ ks then .err 11 (c :: r) else colon t q) else .err 4 (c :: r)
def Out.consL (h : Hd) (k : F) : Out -> Out
 | .err no r => .err no r
 | .ok h0 f r => .ok h0 (.cons h k f) r
def Out.consM (t : List UInt8) (h : Hd) (k : F) : Out -> Out
 | .err no r => .err no r
 | .ok h0 f r => .ok { h0 with keys := t :: h0.keys } (.cons h k f) r
inductive Kd where
 | val
 | items
 | mems (ks : List (List UInt8))
def Kd.need : Kd -> List UInt8 -> Nat
 | .val, s => 2 * s.length + 1
 | _, s => 2 * s.length + 2
def rd : Nat -> Kd -> Nat -> List UInt8 -> Out
 | 0, _, _, s => .err 0 s
 | n + 1, .val, d, s => (match bl s with
  | [] => .err 2 []
  | c :: r => if 32 < d then .err 5 (c :: r) else match atom (c :: r) with
   | some o => o
   | none => if c = 91 then (match opn 93 r with
    | some q => .ok (plainH 5) .nil q
    | none => rd n .items d r) else (match opn 125 r with
    | some q => .ok (plainH 6) .nil q
    | none => rd n (.mems []) d r))
 | n + 1, .items, d, s => (match rd n .val (d + 1) s with
  | .err no r => .err no r
  | .ok h k r => match nx 93 r with
   | .err no q => .err no q
   | .fin q => .ok (plainH 5) (.cons h k .nil) q
   | .more q => (rd n .items d q).consL h k)
 | n + 1, .mems ks, d, s => (match key ks s with
  | .err no r => .err no r
  | .ok t p => match rd n .val (d + 1) p with
   | .err no r => .err no r
   | .ok h k r => match nx 125 r with
    | .err no q => .err no q
    | .fin q => .ok ⟨6, 0, [], [t]⟩ (.cons h k .nil) q
    | .more q => (rd n (.mems (ks ++ [t])) d q).consM t h k)
theorem nx_len {close : UInt8} {s q : List UInt8} (h : nx close s = .fin q ∨ nx close s = .more q) : q.length < s.length := by
 have hb := bl_len s
 unfold nx at h
 split at h
 . rcases h with h | h <;> cases h
 . rename_i c r hc
   rw [hc] at hb
   simp only [List.length_cons] at hb
   split at h
   . rcases h with h | h
     . cases h
     . injection h with h; subst h; omega
   . split at h
     . rcases h with h | h
       . injection h with h; subst h; omega
       . cases h
     . rcases h with h | h <;> cases h
theorem opn_len {close : UInt8} {s q : List UInt8} (h : opn close s = some q) : q.length < s.length := by
 have hb := bl_len s
 unfold opn at h
 split at h
 . cases h
 . rename_i c r hc
   rw [hc] at hb
   simp only [List.length_cons] at hb
   split at h
   . injection h with h; subst h; omega
   . cases h
theorem colon_len {t t' s q : List UInt8} (h : colon t s = .ok t' q) : q.length < s.length /\ t' = t := by
 have hb := bl_len s
 unfold colon at h
 split at h
 . cases h
 . rename_i c r hc
   rw [hc] at hb
   simp only [List.length_cons] at hb
   split at h
   . injection h with h1 h; subst h; exact ⟨by omega, h1.symm⟩
   . cases h
theorem key_len {ks : List (List UInt8)} {s t q : List UInt8} (h : key ks s = .ok t q) : t.length + q.length < s.length := by
 have hb := bl_len s
 unfold key at h
 split at h
 . cases h
 . rename_i c r hc
   rw [hc] at hb
   simp only [List.length_cons] at hb
   split at h
   . split at h
     . cases h
     . rename_i t2 q2 ht
       have := txt_len _ _ _ _ (Nat.le_refl _) ht
       split at h
       . cases h
       . obtain ⟨h1, h2⟩ := colon_len h
         subst h2; omega
   . cases h
theorem isPrefixOf_len {p s : List UInt8} (h : p.isPrefixOf s = true) : p.length ≤ s.length := by
 have := (List.isPrefixOf_iff_prefix.1 h).length_le
 exact this
theorem atom_len {s : List UInt8} {h : Hd} {k : F} {r : List UInt8} (hx : atom s = some (.ok h k r)) : r.length < s.length := by
 unfold atom at hx
 split at hx
 . rename_i hp
   have := isPrefixOf_len hp
   simp only [Option.some.injEq, Out.ok.injEq] at hx
   obtain ⟨_, _, rfl⟩ := hx
   simp only [List.length_cons, List.length_nil] at this
   rw [List.length_drop]; omega
 . split at hx
   . rename_i hp
     have := isPrefixOf_len hp
     simp only [Option.some.injEq, Out.ok.injEq] at hx
     obtain ⟨_, _, rfl⟩ := hx
     simp only [List.length_cons, List.length_nil] at this
     rw [List.length_drop]; omega
   . split at hx
     . rename_i hp
       have := isPrefixOf_len hp
       simp only [Option.some.injEq, Out.ok.injEq] at hx
       obtain ⟨_, _, rfl⟩ := hx
       simp only [List.length_cons, List.length_nil] at this
       rw [List.length_drop]; omega
     . cases s with
       | nil => cases hx
       | cons c t =>
        simp only at hx
        split at hx
        . cases ht : txt t with
          | err no q => rw [ht] at hx; simp [TO.out] at hx
          | ok t2 q =>
            rw [ht] at hx
            simp only [TO.out, Option.some.injEq, Out.ok.injEq] at hx
            obtain ⟨_, _, rfl⟩ := hx
            have := txt_len _ _ _ _ (Nat.le_refl _) ht
            simp; omega
        . split at hx
          . cases hx
          . split at hx
            . rename_i hc
              unfold numOut at hx
              split at hx
              . simp only [Option.some.injEq, Out.ok.injEq] at hx
                obtain ⟨_, _, rfl⟩ := hx
                have hn : numc c = true := by
                 unfold numc
                 rcases hc with rfl | hc
                 . rfl
                 . rw [decide_eq_true hc]; rfl
                rw [List.length_drop, List.takeWhile_cons, hn]
                simp only [if_true, List.length_cons]
                omega
              . simp at hx
            . simp at hx
theorem rd_len : ∀ (n : Nat) (kd : Kd) (d : Nat) (s : List UInt8) (h : Hd) (k : F) (r : List UInt8), rd n kd d s = .ok h k r -> r.length < s.length := by
 intro n
 induction n with
 | zero => intro kd d s h k r hx; simp [rd] at hx
 | succ n ih =>
  intro kd d s h k r hx
  cases kd with
  | val =>
   have hb := bl_len s
   unfold rd at hx
   split at hx
   . cases hx
   . rename_i c t hc
     rw [hc] at hb
     simp only [List.length_cons] at hb
     split at hx
     . cases hx
     . split at hx
       . rename_i o ho
         subst hx
         have := atom_len ho
         simp only [List.length_cons] at this
         omega
       . split at hx
         . split at hx
           . rename_i q hq
             have := opn_len hq
             injection hx with _ _ hx; subst hx; omega
           . have := ih _ _ _ _ _ _ hx; omega
         . split at hx
           . rename_i q hq
             have := opn_len hq
             injection hx with _ _ hx; subst hx; omega
           . have := ih _ _ _ _ _ _ hx; omega
  | items =>
   unfold rd at hx
   split at hx
   . cases hx
   . rename_i h1 k1 r1 he
     have h2 := ih _ _ _ _ _ _ he
     split at hx
     . cases hx
     . rename_i q hq
       have := nx_len (.inl hq)
       injection hx with _ _ hx; subst hx; omega
     . rename_i q hq
       have h3 := nx_len (.inr hq)
       cases hr : rd n .items d q with
       | err no q2 => rw [hr] at hx; cases hx
       | ok h4 k4 r4 =>
         rw [hr] at hx
         injection hx with _ _ hx; subst hx
         have := ih _ _ _ _ _ _ hr; omega
  | mems ks =>
   unfold rd at hx
   split at hx
   . cases hx
   . rename_i t p hp
     have h0 := key_len hp
     split at hx
     . cases hx
     . rename_i h1 k1 r1 he
       have h2 := ih _ _ _ _ _ _ he
       split at hx
       . cases hx
       . rename_i q hq
         have := nx_len (.inl hq)
         injection hx with _ _ hx; subst hx; omega
       . rename_i q hq
         have h3 := nx_len (.inr hq)
         cases hr : rd n (.mems (ks ++ [t])) d q with
         | err no q2 => rw [hr] at hx; cases hx
         | ok h4 k4 r4 =>
           rw [hr] at hx
           injection hx with _ _ hx; subst hx
           have := ih _ _ _ _ _ _ hr; omega
theorem rd_more : ∀ (n : Nat) (kd : Kd) (d : Nat) (s : List UInt8), kd.need s ≤ n -> ∀ m, kd.need s ≤ m -> rd n kd d s = rd m kd d s := by
 intro n
 induction n with
 | zero => intro kd d s h; cases kd <;> simp [Kd.need] at h
 | succ n ih =>
  intro kd d s h m hm
  cases m with
  | zero => cases kd <;> simp [Kd.need] at hm
  | succ m =>
   cases kd with
   | val =>
    simp only [Kd.need] at h hm
    have hb := bl_len s
    rw [rd, rd]
    cases hc : bl s with
    | nil => rfl
    | cons c r =>
     rw [hc] at hb
     simp only [List.length_cons] at hb
     simp only
     rw [ih .items d r (by simp only [Kd.need]; omega) m (by simp only [Kd.need]; omega), ih (.mems []) d r (by simp only [Kd.need]; omega) m (by simp only [Kd.need]; omega)]
   | items =>
    simp only [Kd.need] at h hm
    rw [rd, rd, ih .val (d + 1) s (by simp only [Kd.need]; omega) m (by simp only [Kd.need]; omega)]
    cases he : rd m .val (d + 1) s with
    | err no r => rfl
    | ok h1 k1 r =>
     have hl := rd_len _ _ _ _ _ _ _ he
     simp only
     cases hq : nx 93 r with
     | err no q => rfl
     | fin q => rfl
     | more q =>
      have := nx_len (.inr hq)
      simp only
      rw [ih .items d q (by simp only [Kd.need]; omega) m (by simp only [Kd.need]; omega)]
   | mems ks =>
    simp only [Kd.need] at h hm
    rw [rd, rd]
    cases hp : key ks s with
    | err no r => rfl
    | ok t p =>
     have h0 := key_len hp
     simp only
     rw [ih .val (d + 1) p (by simp only [Kd.need]; omega) m (by simp only [Kd.need]; omega)]
     cases he : rd m .val (d + 1) p with
     | err no r => rfl
     | ok h1 k1 r =>
      have hl := rd_len _ _ _ _ _ _ _ he
      simp only
      cases hq : nx 125 r with
      | err no q => rfl
      | fin q => rfl
      | more q =>
       have := nx_len (.inr hq)
       simp only
       rw [ih (.mems (ks ++ [t])) d q (by simp only [Kd.need]; omega) m (by simp only [Kd.need]; omega)]
def val (d : Nat) (s : List UInt8) : Out := rd (2 * s.length + 1) .val d s
def items (d : Nat) (s : List UInt8) : Out := rd (2 * s.length + 2) .items d s
def mems (ks : List (List UInt8)) (d : Nat) (s : List UInt8) : Out := rd (2 * s.length + 2) (.mems ks) d s
def listO (d : Nat) (r : List UInt8) : Out := match opn 93 r with
 | some q => .ok (plainH 5) .nil q
 | none => items d r
def objO (d : Nat) (r : List UInt8) : Out := match opn 125 r with
 | some q => .ok (plainH 6) .nil q
 | none => mems [] d r
theorem val_eq (d : Nat) (s : List UInt8) : val d s = match bl s with
  | [] => .err 2 []
  | c :: r => if 32 < d then .err 5 (c :: r) else match atom (c :: r) with
   | some o => o
   | none => if c = 91 then listO d r else objO d r := by
 have hb := bl_len s
 unfold val listO objO items mems
 conv => lhs; rw [rd]
 cases hc : bl s with
 | nil => rfl
 | cons c r =>
  rw [hc] at hb
  simp only [List.length_cons] at hb
  simp only
  rw [rd_more (2 * s.length) .items d r (by simp only [Kd.need]; omega) (2 * r.length + 2) (by simp only [Kd.need]; omega), rd_more (2 * s.length) (.mems []) d r (by simp only [Kd.need]; omega) (2 * r.length + 2) (by simp only [Kd.need]; omega)]
theorem items_eq (d : Nat) (s : List UInt8) : items d s = match val (d + 1) s with
  | .err no r => .err no r
  | .ok h k r => match nx 93 r with
   | .err no q => .err no q
   | .fin q => .ok (plainH 5) (.cons h k .nil) q
   | .more q => (items d q).consL h k := by
 unfold items val
 conv => lhs; rw [rd]
 cases he : rd (2 * s.length + 1) .val (d + 1) s with
 | err no r => rfl
 | ok h k r =>
  have hl := rd_len _ _ _ _ _ _ _ he
  simp only
  cases hq : nx 93 r with
  | err no q => rfl
  | fin q => rfl
  | more q =>
   have := nx_len (.inr hq)
   simp only
   rw [rd_more (2 * s.length + 1) .items d q (by simp only [Kd.need]; omega) (2 * q.length + 2) (by simp only [Kd.need]; omega)]
theorem mems_eq (ks : List (List UInt8)) (d : Nat) (s : List UInt8) : mems ks d s = match key ks s with
  | .err no r => .err no r
  | .ok t p => match val (d + 1) p with
   | .err no r => .err no r
   | .ok h k r => match nx 125 r with
    | .err no q => .err no q
    | .fin q => .ok ⟨6, 0, [], [t]⟩ (.cons h k .nil) q
    | .more q => (mems (ks ++ [t]) d q).consM t h k := by
 unfold mems val
 conv => lhs; rw [rd]
 cases hp : key ks s with
 | err no r => rfl
 | ok t p =>
  have h0 := key_len hp
  simp only
  rw [rd_more (2 * s.length + 1) .val (d + 1) p (by simp only [Kd.need]; omega) (2 * p.length + 1) (by simp only [Kd.need]; omega)]
  cases he : rd (2 * p.length + 1) .val (d + 1) p with
  | err no r => rfl
  | ok h k r =>
   have hl := rd_len _ _ _ _ _ _ _ he
   simp only
   cases hq : nx 125 r with
   | err no q => rfl
   | fin q => rfl
   | more q =>
    have := nx_len (.inr hq)
    simp only
    rw [rd_more (2 * s.length + 1) (.mems (ks ++ [t])) d q (by simp only [Kd.need]; omega) (2 * q.length + 2) (by simp only [Kd.need]; omega)]
theorem val_len {d : Nat} {s : List UInt8} {h : Hd} {k : F} {r : List UInt8} (hx : val d s = .ok h k r) : r.length < s.length := rd_len _ _ _ _ _ _ _ hx
def cont (c : UInt8) : Bool := decide (128 ≤ c.toNat /\ c.toNat ≤ 191)
def char : List UInt8 -> Nat
 | [] => 0
 | c :: r =>
  if c.toNat < 128 then 1
  else if 194 ≤ c.toNat /\ c.toNat ≤ 223 then (match r with
   | x :: _ => if cont x then 2 else 0
   | _ => 0)
  else if 224 ≤ c.toNat /\ c.toNat ≤ 239 then (match r with
   | x :: y :: _ => if (if c.toNat = 224 then 160 else 128) ≤ x.toNat /\ x.toNat ≤ (if c.toNat = 237 then 159 else 191) /\ cont y = true then 3 else 0
   | _ => 0)
  else if 240 ≤ c.toNat /\ c.toNat ≤ 244 then (match r with
   | x :: y :: z :: _ => if (if c.toNat = 240 then 144 else 128) ≤ x.toNat /\ x.toNat ≤ (if c.toNat = 244 then 143 else 191) /\ cont y = true /\ cont z = true then 4 else 0
   | _ => 0)
  else 0
def wrongF : Nat -> List UInt8 -> Option (List UInt8)
 | 0, _ => none
 | n + 1, s => match s with
  | [] => none
  | c :: r => if char (c :: r) = 0 then some (c :: r) else wrongF n ((c :: r).drop (char (c :: r)))
def wrong (s : List UInt8) : Option (List UInt8) := wrongF s.length s
theorem wrongF_more : ∀ (n : Nat) (s : List UInt8), s.length ≤ n -> ∀ m, s.length ≤ m -> wrongF n s = wrongF m s := by
 intro n
 induction n with
 | zero =>
  intro s h m _
  obtain rfl := List.length_eq_zero_iff.1 (Nat.le_zero.1 h)
  cases m <;> rfl
 | succ n ih =>
  intro s h m hm
  cases s with
  | nil => cases m <;> rfl
  | cons c r =>
   cases m with
   | zero => simp at hm
   | succ m =>
    simp only [List.length_cons] at h hm
    unfold wrongF
    by_cases hc : char (c :: r) = 0
    . simp only [hc, if_true]
    . simp only [hc, if_false]
      exact ih _ (by rw [List.length_drop, List.length_cons]; omega) m (by rw [List.length_drop, List.length_cons]; omega)
theorem wrong_eq (c : UInt8) (r : List UInt8) : wrong (c :: r) = if char (c :: r) = 0 then some (c :: r) else wrong ((c :: r).drop (char (c :: r))) := by
 unfold wrong
 rw [List.length_cons, wrongF]
 by_cases hc : char (c :: r) = 0
 . simp only [hc, if_true]
 . simp only [hc, if_false]
   exact wrongF_more _ _ (by rw [List.length_drop, List.length_cons]; omega) _ (Nat.le_refl _)
def parse (s : List UInt8) : Out := if 4194304 < s.length then .err 5 s else match wrong s with
 | some r => .err 6 r
 | none => match val 1 s with
  | .err no r => .err no r
  | .ok h k r => match bl r with
   | [] => .ok h k []
   | c :: q => .err 3 (c :: q)
end Js
end Go.Proofs.YtjohdaobhonioaaGreatDoor
namespace Go.Proofs.YtjohdaobhonioaaGreatDoor
namespace Js
def hexc (n : Nat) : UInt8 := if n < 10 then .ofNat (48 + n) else .ofNat (87 + n)
def qc (c : UInt8) : List UInt8 := if c = 34 ∨ c = 92 then [92, c] else if c.toNat < 32 then [92, 117, 48, 48, hexc (c.toNat / 16), hexc (c.toNat % 16)] else [c]
def quoted (s : List UInt8) : List UInt8 := 34 :: (s.flatMap qc ++ [34])
def commas : List (List UInt8) -> List UInt8
 | [] => []
 | [x] => x
 | x :: y :: r => x ++ 44 :: commas (y :: r)
def lexL : List UInt8 -> List UInt8 -> Bool
 | _, [] => false
 | [], _ :: _ => true
 | a :: s, b :: t => a.toNat < b.toNat || (a.toNat == b.toNat && lexL s t)
def ins {α : Type} (p : List UInt8 × α) : List (List UInt8 × α) -> List (List UInt8 × α)
 | [] => [p]
 | q :: r => if lexL q.1 p.1 then q :: ins p r else p :: q :: r
def sortK {α : Type} (l : List (List UInt8 × α)) : List (List UInt8 × α) := l.foldr ins []
def member (p : List UInt8 × List UInt8) : List UInt8 := quoted p.1 ++ 58 :: p.2
def formH (h : Hd) (fs : List (List UInt8)) : List UInt8 :=
 if h.kind = 0 then [110, 117, 108, 108] else if h.kind = 1 then [102, 97, 108, 115, 101] else if h.kind = 2 then [116, 114, 117, 101]
 else if h.kind = 3 then decI h.num else if h.kind = 4 then quoted h.text
 else if h.kind = 5 then 91 :: (commas fs ++ [93]) else 123 :: (commas ((sortK (h.keys.zip fs)).map member) ++ [125])
def forms : F -> List (List UInt8)
 | .nil => []
 | .cons h k r => formH h (forms k) :: forms r
def form (h : Hd) (k : F) : List UInt8 := formH h (forms k)
theorem forms_len (f : F) : (forms f).length = f.len := by induction f <;> simp_all [forms, F.len]
def dupL : List (List UInt8) -> Bool
 | [] => false
 | x :: r => decide (x ∈ r) || dupL r
def own (d : Nat) (h : Hd) (n : Nat) : Nat :=
 if 32 < d then 5
 else if h.kind < 0 ∨ 6 < h.kind ∨ (h.kind = 6 /\ h.keys.length ≠ n) then 14
 else if h.kind = 4 /\ wrong h.text ≠ none then 6
 else if h.kind ≠ 6 then 0
 else if ∃ x ∈ h.keys, wrong x ≠ none then 6
 else if dupL h.keys = true then 11 else 0
def wrongsF (d : Nat) : F -> Nat
 | .nil => 0
 | .cons h k r =>
  let e := own d h k.len
  if e ≠ 0 then e
  else
   let e2 := if 5 ≤ h.kind then wrongsF (d + 1) k else 0
   if e2 ≠ 0 then e2 else wrongsF d r
def wrongs (d : Nat) (h : Hd) (k : F) : Nat :=
 let e := own d h k.len
 if e ≠ 0 then e else if 5 ≤ h.kind then wrongsF (d + 1) k else 0
theorem wrongsF_cons (d : Nat) (h : Hd) (k r : F) : wrongsF d (.cons h k r) = if wrongs d h k ≠ 0 then wrongs d h k else wrongsF d r := by
 unfold wrongs
 rw [wrongsF]
 simp only
 by_cases h1 : own d h k.len = 0
 . simp [h1]
 . simp [h1]
def printed (h : Hd) (k : F) : List UInt8 × Nat := if wrongs 1 h k ≠ 0 then ([], wrongs 1 h k) else if 4194304 < (form h k).length then ([], 5) else (form h k, 0)
theorem hexd_hexc {n : Nat} (h : n < 16) : hexd (hexc n) = some n := (show ∀ n : Fin 16, hexd (hexc n.val) = some n.val by decide) ⟨n, h⟩
theorem tstep_qc (c : UInt8) (r : List UInt8) : tstep (qc c ++ r) = .emit [c] r := by
 unfold qc
 split
 . rename_i h
   rcases h with rfl | rfl <;> rfl
 . rename_i h1
   split
   . rename_i h2
     have hu : unit ([92, 117, 48, 48, hexc (c.toNat / 16), hexc (c.toNat % 16)] ++ r) = .val c.toNat := by
      simp only [unit, List.cons_append, List.nil_append, if_true, unitD]
      rw [show hexd 48 = some 0 from rfl]
      simp only
      rw [hexd_hexc (by omega), ]
      simp only
      rw [hexd_hexc (by omega)]
      simp only
      congr 1
      omega
     have e : [92, 117, 48, 48, hexc (c.toNat / 16), hexc (c.toNat % 16)] ++ r = 92 :: 117 :: 48 :: 48 :: hexc (c.toNat / 16) :: hexc (c.toNat % 16) :: r := rfl
     rw [e] at hu ⊢
     rw [tstep_cons, if_neg (by decide), if_neg (by decide), if_pos rfl]
     unfold esc
     simp only
     rw [show simple 117 = none from rfl]
     simp only
     unfold esc1
     rw [hu]
     simp only
     rw [if_pos (.inl (by omega))]
     unfold utf8
     rw [if_pos (by omega)]
     simp
   . rename_i h2
     rw [List.cons_append, List.nil_append]
     have h3 : ¬ c = 34 := fun e => h1 (.inl e)
     have h4 : ¬ c = 92 := fun e => h1 (.inr e)
     rw [tstep_cons, if_neg h3, if_neg h2, if_neg h4]
theorem txt_qc (s r : List UInt8) : txt (s.flatMap qc ++ 34 :: r) = .ok s r := by
 induction s with
 | nil => rw [List.flatMap_nil, List.nil_append, txt_eq]; rfl
 | cons c s ih =>
  rw [List.flatMap_cons, List.append_assoc, txt_eq, tstep_qc]
  simp only
  rw [ih]
  rfl
end Js
end Go.Proofs.YtjohdaobhonioaaGreatDoor
namespace Go.Proofs.YtjohdaobhonioaaGreatDoor
namespace Js
theorem char2 {c : UInt8} (h1 : ¬ c.toNat < 128) (h2 : 194 ≤ c.toNat /\ c.toNat ≤ 223) (x : UInt8) (r : List UInt8) : char (c :: x :: r) = if cont x then 2 else 0 := by
 rw [char, if_neg h1, if_pos h2]
theorem char3 {c : UInt8} (h1 : ¬ c.toNat < 128) (h2 : ¬ (194 ≤ c.toNat /\ c.toNat ≤ 223)) (h3 : 224 ≤ c.toNat /\ c.toNat ≤ 239) (x y : UInt8) (r : List UInt8) :
  char (c :: x :: y :: r) = if (if c.toNat = 224 then 160 else 128) ≤ x.toNat /\ x.toNat ≤ (if c.toNat = 237 then 159 else 191) /\ cont y = true then 3 else 0 := by
 rw [char, if_neg h1, if_neg h2, if_pos h3]
theorem char4 {c : UInt8} (h1 : ¬ c.toNat < 128) (h2 : ¬ (194 ≤ c.toNat /\ c.toNat ≤ 223)) (h3 : ¬ (224 ≤ c.toNat /\ c.toNat ≤ 239)) (h4 : 240 ≤ c.toNat /\ c.toNat ≤ 244) (x y z : UInt8) (r : List UInt8) :
  char (c :: x :: y :: z :: r) = if (if c.toNat = 240 then 144 else 128) ≤ x.toNat /\ x.toNat ≤ (if c.toNat = 244 then 143 else 191) /\ cont y = true /\ cont z = true then 4 else 0 := by
 rw [char, if_neg h1, if_neg h2, if_neg h3, if_pos h4]
theorem char_cases {s : List UInt8} (h : char s ≠ 0) : (∃ c r, s = c :: r /\ c.toNat < 128 /\ char s = 1) ∨ (∃ c x r, s = c :: x :: r /\ 128 ≤ c.toNat /\ 128 ≤ x.toNat /\ char s = 2 /\ ∀ t, char (c :: x :: t) = 2) ∨
  (∃ c x y r, s = c :: x :: y :: r /\ 128 ≤ c.toNat /\ 128 ≤ x.toNat /\ 128 ≤ y.toNat /\ char s = 3 /\ ∀ t, char (c :: x :: y :: t) = 3) ∨
  (∃ c x y z r, s = c :: x :: y :: z :: r /\ 128 ≤ c.toNat /\ 128 ≤ x.toNat /\ 128 ≤ y.toNat /\ 128 ≤ z.toNat /\ char s = 4 /\ ∀ t, char (c :: x :: y :: z :: t) = 4) := by
 cases s with
 | nil => exact absurd rfl h
 | cons c r =>
  by_cases h1 : c.toNat < 128
  . exact .inl ⟨c, r, rfl, h1, by simp [char, h1]⟩
  . by_cases h2 : 194 ≤ c.toNat /\ c.toNat ≤ 223
    . cases r with
      | nil => exact absurd (by simp [char, h1, h2]) h
      | cons x r =>
        by_cases hx : cont x = true
        . have hx' := hx
          unfold cont at hx'
          have := of_decide_eq_true hx'
          exact .inr (.inl ⟨c, x, r, rfl, by omega, by omega, by rw [char2 h1 h2]; simp [hx], fun t => by rw [char2 h1 h2]; simp [hx]⟩)
        . exact absurd (by rw [char2 h1 h2]; simp [hx]) h
    . by_cases h3 : 224 ≤ c.toNat /\ c.toNat ≤ 239
      . rcases r with _ | ⟨x, _ | ⟨y, r⟩⟩
        . exact absurd (by simp [char, h1, h2, h3]) h
        . exact absurd (by simp [char, h1, h2, h3]) h
        . by_cases hx : (if c.toNat = 224 then 160 else 128) ≤ x.toNat /\ x.toNat ≤ (if c.toNat = 237 then 159 else 191) /\ cont y = true
          . have hy := hx.2.2
            unfold cont at hy
            have hy' := of_decide_eq_true hy
            have hx1 : 128 ≤ x.toNat := by have := hx.1; split at this <;> omega
            exact .inr (.inr (.inl ⟨c, x, y, r, rfl, by omega, hx1, by omega, by rw [char3 h1 h2 h3, if_pos hx], fun t => by rw [char3 h1 h2 h3, if_pos hx]⟩))
          . exact absurd (by rw [char3 h1 h2 h3, if_neg hx]) h
      . by_cases h4 : 240 ≤ c.toNat /\ c.toNat ≤ 244
        . rcases r with _ | ⟨x, _ | ⟨y, _ | ⟨z, r⟩⟩⟩
          . exact absurd (by simp [char, h1, h2, h3, h4]) h
          . exact absurd (by simp [char, h1, h2, h3, h4]) h
          . exact absurd (by simp [char, h1, h2, h3, h4]) h
          . by_cases hx : (if c.toNat = 240 then 144 else 128) ≤ x.toNat /\ x.toNat ≤ (if c.toNat = 244 then 143 else 191) /\ cont y = true /\ cont z = true
            . have hy := hx.2.2.1
              have hz := hx.2.2.2
              unfold cont at hy hz
              have hy' := of_decide_eq_true hy
              have hz' := of_decide_eq_true hz
              have hx1 : 128 ≤ x.toNat := by have := hx.1; split at this <;> omega
              exact .inr (.inr (.inr ⟨c, x, y, z, r, rfl, by omega, hx1, by omega, by omega, by rw [char4 h1 h2 h3 h4, if_pos hx], fun t => by rw [char4 h1 h2 h3 h4, if_pos hx]⟩))
            . exact absurd (by rw [char4 h1 h2 h3 h4, if_neg hx]) h
        . exact absurd (by simp [char, h1, h2, h3, h4]) h
theorem char_ascii {c : UInt8} (h : c.toNat < 128) (r : List UInt8) : char (c :: r) = 1 := by simp [char, h]
theorem wrong_ascii {c : UInt8} (h : c.toNat < 128) (r : List UInt8) : wrong (c :: r) = wrong r := by
 rw [wrong_eq, char_ascii h, if_neg (by decide)]; rfl
theorem wrong_asciis : ∀ (p r : List UInt8), (∀ c ∈ p, c.toNat < 128) -> wrong (p ++ r) = wrong r := by
 intro p r
 induction p with
 | nil => intro _; rfl
 | cons c p ih =>
  intro h
  rw [List.cons_append, wrong_ascii (h c (by simp)), ih (fun x hx => h x (by simp [hx]))]
theorem wrong_cases {s : List UInt8} (h : wrong s = none) : s = [] ∨ ∃ p r, s = p ++ r /\ p ≠ [] /\ wrong r = none /\ (∀ t, wrong (p ++ t) = wrong t) /\ ((∃ c, p = [c] /\ c.toNat < 128) ∨ ∀ c ∈ p, 128 ≤ c.toNat) := by
 cases s with
 | nil => exact .inl rfl
 | cons c r =>
  refine .inr ?_
  have h0 := h
  rw [wrong_eq] at h
  by_cases hc : char (c :: r) = 0
  . rw [if_pos hc] at h; cases h
  . rw [if_neg hc] at h
    rcases char_cases hc with ⟨c1, r1, e, h1, h2⟩ | ⟨c1, x, r1, e, h1, h2, h3, h4⟩ | ⟨c1, x, y, r1, e, h1, h2, h3, h4, h5⟩ | ⟨c1, x, y, z, r1, e, h1, h2, h3, h4, h5, h6⟩
    . rw [h2, e] at h
      exact ⟨[c1], r1, e, by simp, by simpa using h, fun t => wrong_ascii h1 t, .inl ⟨c1, rfl, h1⟩⟩
    . rw [h3, e] at h
      refine ⟨[c1, x], r1, e, by simp, by simpa using h, fun t => ?_, .inr (by simp; omega)⟩
      rw [List.cons_append, List.cons_append, List.nil_append, wrong_eq, h4, if_neg (by decide)]; rfl
    . rw [h4, e] at h
      refine ⟨[c1, x, y], r1, e, by simp, by simpa using h, fun t => ?_, .inr (by simp; omega)⟩
      rw [List.cons_append, List.cons_append, List.cons_append, List.nil_append, wrong_eq, h5, if_neg (by decide)]; rfl
    . rw [h5, e] at h
      refine ⟨[c1, x, y, z], r1, e, by simp, by simpa using h, fun t => ?_, .inr (by simp; omega)⟩
      rw [List.cons_append, List.cons_append, List.cons_append, List.cons_append, List.nil_append, wrong_eq, h6, if_neg (by decide)]; rfl
theorem wrong_append : ∀ (n : Nat) (s : List UInt8), s.length ≤ n -> wrong s = none -> ∀ t, wrong (s ++ t) = wrong t := by
 intro n
 induction n with
 | zero => intro s h _ t; obtain rfl := List.length_eq_zero_iff.1 (Nat.le_zero.1 h); rfl
 | succ n ih =>
  intro s h hw t
  rcases wrong_cases hw with rfl | ⟨p, r, rfl, hp, hr, ha, _⟩
  . rfl
  . have : 0 < p.length := List.length_pos_iff.2 hp
    rw [List.length_append] at h
    rw [List.append_assoc, ha, ih r (by omega) hr]
theorem wrong_app {s : List UInt8} (h : wrong s = none) (t : List UInt8) : wrong (s ++ t) = wrong t := wrong_append _ s (Nat.le_refl _) h t
theorem qc_high {c : UInt8} (h : 128 ≤ c.toNat) : qc c = [c] := by
 unfold qc
 rw [if_neg (by rintro (rfl | rfl) <;> simp at h), if_neg (by omega)]
theorem hexc_ascii {n : Nat} (h : n < 16) : (hexc n).toNat < 128 := (show ∀ n : Fin 16, (hexc n.val).toNat < 128 by decide) ⟨n, h⟩
theorem qc_low {c : UInt8} (h : c.toNat < 128) : ∀ x ∈ qc c, x.toNat < 128 := by
 unfold qc
 split
 . intro x hx
   simp only [List.mem_cons, List.not_mem_nil, or_false] at hx
   rcases hx with rfl | rfl
   . decide
   . exact h
 . split
   . intro x hx
     simp only [List.mem_cons, List.not_mem_nil, or_false] at hx
     rcases hx with rfl | rfl | rfl | rfl | rfl | rfl
     . decide
     . decide
     . decide
     . decide
     . exact hexc_ascii (by omega)
     . exact hexc_ascii (by omega)
   . intro x hx
     obtain rfl := List.mem_singleton.1 hx; exact h
theorem flat_high {p : List UInt8} (h : ∀ c ∈ p, 128 ≤ c.toNat) : p.flatMap qc = p := by
 induction p with
 | nil => rfl
 | cons c p ih => rw [List.flatMap_cons, qc_high (h c (by simp)), ih (fun x hx => h x (by simp [hx]))]; rfl
theorem wrong_flat : ∀ (n : Nat) (s : List UInt8), s.length ≤ n -> wrong s = none -> wrong (s.flatMap qc) = none := by
 intro n
 induction n with
 | zero => intro s h _; obtain rfl := List.length_eq_zero_iff.1 (Nat.le_zero.1 h); rfl
 | succ n ih =>
  intro s h hw
  rcases wrong_cases hw with rfl | ⟨p, r, rfl, hp, hr, ha, hc⟩
  . rfl
  . have : 0 < p.length := List.length_pos_iff.2 hp
    rw [List.length_append] at h
    rw [List.flatMap_append]
    rcases hc with ⟨c, rfl, hc⟩ | hc
    . rw [List.flatMap_cons, List.flatMap_nil, List.append_nil, wrong_asciis _ _ (qc_low hc)]
      exact ih r (by omega) hr
    . rw [flat_high hc, ha]
      exact ih r (by omega) hr
theorem wrong_quoted {s : List UInt8} (h : wrong s = none) : wrong (quoted s) = none := by
 unfold quoted
 rw [wrong_ascii (by decide), wrong_app (wrong_flat _ s (Nat.le_refl _) h)]
 rfl
theorem tstep_high {c : UInt8} (h : 128 ≤ c.toNat) (r : List UInt8) : tstep (c :: r) = .emit [c] r := by
 rw [tstep_cons, if_neg (by rintro rfl; simp at h), if_neg (by omega), if_neg (by rintro rfl; simp at h)]
theorem txt_high {p : List UInt8} (h : ∀ c ∈ p, 128 ≤ c.toNat) (r : List UInt8) : txt (p ++ r) = (txt r).pre p := by
 induction p with
 | nil => rw [List.nil_append, TO.pre_nil]
 | cons c p ih =>
  rw [List.cons_append, txt_eq, tstep_high (h c (by simp))]
  simp only
  rw [ih (fun x hx => h x (by simp [hx])), TO.pre_pre]
  rfl
theorem hexd_ascii {c : UInt8} {d : Nat} (h : hexd c = some d) : c.toNat < 128 := by
 unfold hexd at h
 split at h
 . omega
 . split at h
   . omega
   . split at h
     . omega
     . cases h
theorem unitD_ascii : ∀ (n v : Nat) (s : List UInt8) (u : Nat), unitD n v s = .val u -> ∃ p r, s = p ++ r /\ p.length = n /\ ∀ c ∈ p, c.toNat < 128 := by
 intro n
 induction n with
 | zero => intro v s u _; exact ⟨[], s, rfl, rfl, by simp⟩
 | succ n ih =>
  intro v s u h
  cases s with
  | nil => simp [unitD] at h
  | cons c r =>
   unfold unitD at h
   cases hc : hexd c with
   | none => rw [hc] at h; cases h
   | some d =>
    rw [hc] at h
    obtain ⟨p, q, rfl, hl, ha⟩ := ih _ _ _ h
    exact ⟨c :: p, q, rfl, by simp [hl], by intro x hx; rcases List.mem_cons.1 hx with rfl | hx; exact hexd_ascii hc; exact ha x hx⟩
theorem unit_ascii {s : List UInt8} {v : Nat} (h : unit s = .val v) : ∃ p r, s = p ++ r /\ p.length = 6 /\ ∀ c ∈ p, c.toNat < 128 := by
 unfold unit at h
 split at h
 . cases h
 . rename_i c r
   split at h
   . rename_i hc
     split at h
     . cases h
     . rename_i d t
       split at h
       . rename_i hd
         obtain ⟨p, q, rfl, hl, ha⟩ := unitD_ascii _ _ _ _ h
         exact ⟨c :: d :: p, q, rfl, by simp [hl], by
          intro x hx
          simp only [List.mem_cons] at hx
          rcases hx with rfl | rfl | hx
          . rw [hc]; decide
          . rw [hd]; decide
          . exact ha x hx⟩
       . cases h
   . cases h
theorem wrong_drop6 {s : List UInt8} {v : Nat} (h : unit s = .val v) (hw : wrong s = none) : wrong (s.drop 6) = none := by
 obtain ⟨p, r, rfl, hl, ha⟩ := unit_ascii h
 rw [wrong_asciis p r ha] at hw
 rw [List.drop_left' hl]; exact hw
theorem toNat_of {n : Nat} (h : n < 256) : (UInt8.ofNat n).toNat = n := by rw [UInt8.toNat_ofNat']; omega
theorem wrong_utf8 {v : Nat} (h : v < 1114112) (hs : v < 55296 ∨ 57343 < v) : wrong (utf8 v) = none := by
 unfold utf8
 split
 . rw [wrong_ascii (by rw [toNat_of (by omega)]; omega)]; rfl
 . split
   . have e : char [UInt8.ofNat (192 + v / 64), UInt8.ofNat (128 + v % 64)] = 2 := by
       have t1 := toNat_of (show 192 + v / 64 < 256 by omega)
       have t2 := toNat_of (show 128 + v % 64 < 256 by omega)
       rw [char2 (by omega) (by omega)]
       unfold cont
       rw [t2, if_pos (decide_eq_true (by omega))]
     rw [wrong_eq, e, if_neg (by decide)]; rfl
   . split
     . have e : char [UInt8.ofNat (224 + v / 4096), UInt8.ofNat (128 + v / 64 % 64), UInt8.ofNat (128 + v % 64)] = 3 := by
        have t1 := toNat_of (show 224 + v / 4096 < 256 by omega)
        have t2 := toNat_of (show 128 + v / 64 % 64 < 256 by omega)
        have t3 := toNat_of (show 128 + v % 64 < 256 by omega)
        rw [char3 (by omega) (by omega) (by omega)]
        unfold cont
        rw [t1, t2, t3, if_pos ⟨by split <;> omega, by split <;> omega, decide_eq_true (by omega)⟩]
       rw [wrong_eq, e, if_neg (by decide)]; rfl
     . have e : char [UInt8.ofNat (240 + v / 262144), UInt8.ofNat (128 + v / 4096 % 64), UInt8.ofNat (128 + v / 64 % 64), UInt8.ofNat (128 + v % 64)] = 4 := by
        have t1 := toNat_of (show 240 + v / 262144 < 256 by omega)
        have t2 := toNat_of (show 128 + v / 4096 % 64 < 256 by omega)
        have t3 := toNat_of (show 128 + v / 64 % 64 < 256 by omega)
        have t4 := toNat_of (show 128 + v % 64 < 256 by omega)
        rw [char4 (by omega) (by omega) (by omega) (by omega)]
        unfold cont
        rw [t1, t2, t3, t4, if_pos ⟨by split <;> omega, by split <;> omega, decide_eq_true (by omega), decide_eq_true (by omega)⟩]
       rw [wrong_eq, e, if_neg (by decide)]; rfl
theorem simple_ascii {c b : UInt8} (h : simple c = some b) : c.toNat < 128 /\ b.toNat < 128 := by
 unfold simple at h
 repeat' split at h
 all_goals first
  | (injection h with h; subst h; subst_vars; decide)
  | cases h
theorem tstep_wrong {c : UInt8} {s b r : List UInt8} (hc : c.toNat < 128) (h : tstep (c :: s) = .emit b r) (hw : wrong (c :: s) = none) : wrong b = none /\ wrong r = none := by
 have hs : wrong s = none := by rw [wrong_ascii hc] at hw; exact hw
 rw [tstep_cons] at h
 split at h
 . cases h
 . split at h
   . cases h
   . split at h
     . unfold esc at h
       split at h
       . rename_i c1 r1 e
         injection e with e1 e2
         subst e1 e2
         split at h
         . rename_i b1 hb
           obtain ⟨h1, h2⟩ := simple_ascii hb
           injection h with h3 h4
           subst h3 h4
           exact ⟨by rw [wrong_ascii h2]; rfl, by rw [wrong_ascii h1] at hs; exact hs⟩
         . unfold esc1 at h
           split at h
           . cases h
           . cases h
           . rename_i v hv
             obtain ⟨_, hv2⟩ := unit_val hv
             have hd := wrong_drop6 hv hw
             split at h
             . rename_i hr
               injection h with h3 h4
               subst h3 h4
               exact ⟨wrong_utf8 (by omega) hr, hd⟩
             . rename_i hr
               split at h
               . cases h
               . rename_i hr2
                 unfold esc2 at h
                 split at h
                 . cases h
                 . cases h
                 . rename_i x hx
                   obtain ⟨_, hx2⟩ := unit_val hx
                   have hd2 := wrong_drop6 hx hd
                   split at h
                   . rename_i hx3
                     injection h with h3 h4
                     subst h3 h4
                     refine ⟨wrong_utf8 (by omega) (.inr (by omega)), ?_⟩
                     rw [List.drop_drop] at hd2
                     exact hd2
                   . cases h
       . cases h
     . injection h with h3 h4
       subst h3 h4
       exact ⟨by rw [wrong_ascii hc]; rfl, hs⟩
theorem txt_wrong : ∀ (n : Nat) (s t r : List UInt8), s.length ≤ n -> wrong s = none -> txt s = .ok t r -> wrong t = none /\ wrong r = none := by
 intro n
 induction n with
 | zero =>
  intro s t r h _ hx
  obtain rfl := List.length_eq_zero_iff.1 (Nat.le_zero.1 h)
  rw [txt_eq] at hx
  simp [tstep] at hx
 | succ n ih =>
  intro s t r h hw hx
  rcases wrong_cases hw with rfl | ⟨p, q, rfl, hp, hq, ha, hc⟩
  . rw [txt_eq] at hx
    simp [tstep] at hx
  . have hpl : 0 < p.length := List.length_pos_iff.2 hp
    rw [List.length_append] at h
    rcases hc with ⟨c, rfl, hc⟩ | hc
    . rw [txt_eq] at hx
      rw [List.cons_append, List.nil_append] at hx hw
      cases ht : tstep (c :: q) with
      | fin r1 =>
       rw [ht] at hx
       injection hx with h1 h2
       subst h1 h2
       have e := tstep_fin ht
       injection e with e1 e2
       subst e1 e2
       exact ⟨rfl, hq⟩
      | err no r1 => rw [ht] at hx; cases hx
      | emit b r1 =>
       rw [ht] at hx
       simp only at hx
       obtain ⟨h1, h2⟩ := tstep_wrong hc ht hw
       have hl := (tstep_emit ht).2
       simp only [List.length_cons, List.length_nil] at hl h
       cases hr : txt r1 with
       | err no r2 => rw [hr] at hx; cases hx
       | ok t2 r2 =>
        rw [hr] at hx
        injection hx with h3 h4
        subst h3 h4
        obtain ⟨h5, h6⟩ := ih r1 t2 r2 (by omega) h2 hr
        exact ⟨by rw [wrong_app h1]; exact h5, h6⟩
    . rw [txt_high hc] at hx
      cases hr : txt q with
      | err no r2 => rw [hr] at hx; cases hx
      | ok t2 r2 =>
       rw [hr] at hx
       injection hx with h3 h4
       subst h3 h4
       obtain ⟨h5, h6⟩ := ih q t2 r2 (by omega) hq hr
       exact ⟨by rw [ha]; exact h5, h6⟩
end Js
end Go.Proofs.YtjohdaobhonioaaGreatDoor
namespace Go.Proofs.YtjohdaobhonioaaGreatDoor
namespace Js
def toL : F -> List (Hd × F)
 | .nil => []
 | .cons h k r => (h, k) :: toL r
def ofL : List (Hd × F) -> F
 | [] => .nil
 | p :: r => .cons p.1 p.2 (ofL r)
theorem toL_ofL (l : List (Hd × F)) : toL (ofL l) = l := by induction l <;> simp_all [ofL, toL]
theorem toL_len (f : F) : (toL f).length = f.len := by induction f <;> simp_all [toL, F.len]
def normV (h : Hd) (vs : List (Hd × F)) : Hd × F :=
 if h.kind = 3 then (⟨3, h.num, [], []⟩, .nil) else if h.kind = 4 then (⟨4, 0, h.text, []⟩, .nil) else if h.kind = 5 then (plainH 5, ofL vs)
 else if h.kind = 6 then (⟨6, 0, [], (sortK (h.keys.zip vs)).map Prod.fst⟩, ofL ((sortK (h.keys.zip vs)).map Prod.snd)) else (plainH h.kind, .nil)
def norms : F -> List (Hd × F)
 | .nil => []
 | .cons h k r => normV h (norms k) :: norms r
def norm (h : Hd) (k : F) : Hd × F := normV h (norms k)
theorem norms_len (f : F) : (norms f).length = f.len := by induction f <;> simp_all [norms, F.len]
theorem ins_map {α β : Type} (g : α -> β) (p : List UInt8 × α) (l : List (List UInt8 × α)) : (ins p l).map (fun q => (q.1, g q.2)) = ins (p.1, g p.2) (l.map fun q => (q.1, g q.2)) := by
 induction l with
 | nil => rfl
 | cons q r ih =>
  simp only [ins, List.map_cons]
  split
  . rw [List.map_cons, ih]
  . rfl
theorem sortK_map {α β : Type} (g : α -> β) (l : List (List UInt8 × α)) : (sortK l).map (fun q => (q.1, g q.2)) = sortK (l.map fun q => (q.1, g q.2)) := by
 induction l with
 | nil => rfl
 | cons p r ih =>
  have e : sortK (p :: r) = ins p (sortK r) := rfl
  rw [e, ins_map, ih]
  rfl
theorem ins_perm {α : Type} (p : List UInt8 × α) (l : List (List UInt8 × α)) : (ins p l).Perm (p :: l) := by
 induction l with
 | nil => exact List.Perm.refl _
 | cons q r ih =>
  simp only [ins]
  split
  . exact (List.Perm.cons q ih).trans (List.Perm.swap p q r)
  . exact List.Perm.refl _
theorem sortK_perm {α : Type} (l : List (List UInt8 × α)) : (sortK l).Perm l := by
 induction l with
 | nil => exact List.Perm.refl _
 | cons p r ih => exact (ins_perm p _).trans (List.Perm.cons p ih)
def NumEnd : List UInt8 -> Prop
 | [] => True
 | c :: _ => numc c = false
def Beg (x : List UInt8) : Prop := ∃ c r, x = c :: r /\ blank c = false /\ c ≠ 93 /\ c ≠ 125
theorem Beg.bl {x : List UInt8} (h : Beg x) (t : List UInt8) : bl (x ++ t) = x ++ t := by
 obtain ⟨c, r, rfl, h1, _⟩ := h
 rw [List.cons_append]
 unfold Js.bl
 rw [h1]; rfl
theorem decI_beg (z : Int) : ∃ c r, decI z = c :: r /\ (c = 45 ∨ (48 ≤ c.toNat /\ c.toNat ≤ 57)) := by
 unfold decI Lib.itoa
 split
 . exact ⟨45, _, rfl, .inl rfl⟩
 . obtain ⟨c, r, h1, h2⟩ := dec_first z.toNat
   exact ⟨c, r, h1, .inr h2⟩
theorem dec_digits' (n : Nat) : ∀ c ∈ Lib.decDigits n, 48 ≤ c.toNat /\ c.toNat ≤ 57 := by
 induction n using Nat.strongRecOn with
 | _ n ih =>
  by_cases h : n < 10
  . rw [Lib.decDigits, dif_pos h]
    intro c hc
    obtain rfl := List.mem_singleton.1 hc
    rw [toNat_of (by omega)]; omega
  . rw [Lib.decDigits, dif_neg h]
    intro c hc
    rcases List.mem_append.1 hc with hc | hc
    . exact ih (n / 10) (by omega) c hc
    . obtain rfl := List.mem_singleton.1 hc
      rw [toNat_of (by omega)]; omega
theorem decI_numc (z : Int) : ∀ c ∈ decI z, numc c = true := by
 have hd : ∀ c : UInt8, 48 ≤ c.toNat /\ c.toNat ≤ 57 -> numc c = true := fun c h => by unfold numc; rw [decide_eq_true h]; rfl
 unfold decI Lib.itoa
 split
 . intro c hc
   rcases List.mem_cons.1 hc with rfl | hc
   . rfl
   . exact hd c (dec_digits' _ c hc)
 . intro c hc
   exact hd c (dec_digits' _ c hc)
theorem dig_not_blank {c : UInt8} (h : c = 45 ∨ (48 ≤ c.toNat /\ c.toNat ≤ 57)) : blank c = false /\ c ≠ 93 /\ c ≠ 125 /\ c ≠ 34 /\ c ≠ 91 /\ c ≠ 123 /\ c ≠ 110 /\ c ≠ 102 /\ c ≠ 116 := by
 have key : ∀ k : Fin 256, ((UInt8.ofNat k.val = 45 ∨ (48 ≤ (UInt8.ofNat k.val).toNat /\ (UInt8.ofNat k.val).toNat ≤ 57)) -> blank (UInt8.ofNat k.val) = false /\ UInt8.ofNat k.val ≠ 93 /\ UInt8.ofNat k.val ≠ 125 /\ UInt8.ofNat k.val ≠ 34 /\ UInt8.ofNat k.val ≠ 91 /\ UInt8.ofNat k.val ≠ 123 /\ UInt8.ofNat k.val ≠ 110 /\ UInt8.ofNat k.val ≠ 102 /\ UInt8.ofNat k.val ≠ 116) := by decide +kernel
 have e : UInt8.ofNat c.toNat = c := by simp
 have := key ⟨c.toNat, by have := c.toNat_lt; omega⟩
 simp only [e] at this
 exact this h
theorem formH_beg (h : Hd) (fs : List (List UInt8)) : Beg (formH h fs) := by
 unfold formH
 repeat' split
 . exact ⟨110, _, rfl, rfl, by decide, by decide⟩
 . exact ⟨102, _, rfl, rfl, by decide, by decide⟩
 . exact ⟨116, _, rfl, rfl, by decide, by decide⟩
 . obtain ⟨c, r, h1, h2⟩ := decI_beg h.num
   obtain ⟨h3, h4, h5, _⟩ := dig_not_blank h2
   exact ⟨c, r, h1, h3, h4, h5⟩
 . exact ⟨34, _, rfl, rfl, by decide, by decide⟩
 . exact ⟨91, _, rfl, rfl, by decide, by decide⟩
 . exact ⟨123, _, rfl, rfl, by decide, by decide⟩
theorem pfx_false {a b : UInt8} {p s : List UInt8} (h : b ≠ a) : (a :: p).isPrefixOf (b :: s) = false := by
 simp [List.isPrefixOf, Ne.symm h]
theorem atom_num {z : Int} (h1 : -9223372036854775808 ≤ z) (h2 : z ≤ 9223372036854775807) {rest : List UInt8} (hr : NumEnd rest) : atom (decI z ++ rest) = some (.ok ⟨3, z, [], []⟩ .nil rest) := by
 have ht : (decI z ++ rest).takeWhile numc = decI z := by
  rw [List.takeWhile_append_of_pos (decI_numc z)]
  cases rest with
  | nil => simp
  | cons c r => rw [List.takeWhile_cons, show numc c = false from hr]; simp
 have hn : numOf (decI z) = some z := numOf_some.2 ⟨rfl, h1, h2⟩
 have ho : numOut (decI z ++ rest) = .ok ⟨3, z, [], []⟩ .nil rest := by
  unfold numOut
  rw [ht, hn]
  simp
 obtain ⟨c, r, e, hc⟩ := decI_beg z
 obtain ⟨_, _, _, h34, h91, h123, h110, h102, h116⟩ := dig_not_blank hc
 rw [e] at ho ⊢
 rw [List.cons_append] at ho ⊢
 unfold atom
 rw [pfx_false h110, pfx_false h102, pfx_false h116]
 simp only [Bool.false_eq_true, if_false]
 rw [if_neg h34, if_neg (by rintro (h | h); exact h91 h; exact h123 h), if_pos hc, ho]
theorem atom_txt (t rest : List UInt8) : atom (quoted t ++ rest) = some (.ok ⟨4, 0, t, []⟩ .nil rest) := by
 unfold quoted
 rw [List.cons_append, List.append_assoc]
 unfold atom
 rw [pfx_false (by decide), pfx_false (by decide), pfx_false (by decide)]
 simp only [Bool.false_eq_true, if_false, if_true]
 rw [show [34] ++ rest = 34 :: rest from rfl, txt_qc]
 rfl
theorem atom_none {c : UInt8} (h : c = 91 ∨ c = 123) (r : List UInt8) : atom (c :: r) = none := by
 unfold atom
 rcases h with rfl | rfl
 . rw [pfx_false (by decide), pfx_false (by decide), pfx_false (by decide)]; rfl
 . rw [pfx_false (by decide), pfx_false (by decide), pfx_false (by decide)]; rfl
inductive All2 {α β : Type} (R : α -> β -> Prop) : List α -> List β -> Prop where
 | nil : All2 R [] []
 | cons {x : α} {y : β} {a : List α} {b : List β} (h : R x y) (t : All2 R a b) : All2 R (x :: a) (y :: b)
def RdsAs (d : Nat) (x : List UInt8) (v : Hd × F) : Prop := Beg x /\ ∀ rest, (v.1.kind = 3 -> NumEnd rest) -> val d (x ++ rest) = .ok v.1 v.2 rest
theorem val_atom {d : Nat} (hd : ¬ 32 < d) {x : List UInt8} (hb : Beg x) {rest : List UInt8} {o : Out} (h : atom (x ++ rest) = some o) : val d (x ++ rest) = o := by
 rw [val_eq, hb.bl]
 obtain ⟨c, r, rfl, _⟩ := hb
 rw [List.cons_append] at h ⊢
 simp only
 rw [if_neg hd, h]
theorem numEnd_of {c : UInt8} (h : numc c = false) (r : List UInt8) : NumEnd (c :: r) := h
theorem nx_more {close : UInt8} (r : List UInt8) : nx close (44 :: r) = .more r := by
 unfold nx Js.bl
 rw [show blank 44 = false from rfl]
 simp
theorem nx_fin {close : UInt8} (h1 : blank close = false) (h2 : close ≠ 44) (r : List UInt8) : nx close (close :: r) = .fin r := by
 unfold nx Js.bl
 rw [h1]
 simp [h2]
theorem items_commas (d : Nat) (rest : List UInt8) : ∀ (fs : List (List UInt8)) (vs : List (Hd × F)), All2 (RdsAs (d + 1)) fs vs -> fs ≠ [] -> items d (commas fs ++ 93 :: rest) = .ok (plainH 5) (ofL vs) rest := by
 intro fs
 induction fs with
 | nil => intro vs _ h; exact absurd rfl h
 | cons x fs ih =>
  intro vs h _
  cases h with
  | cons hx hr =>
   rename_i v vs
   cases fs with
   | nil =>
    cases hr
    rw [items_eq]
    simp only [commas]
    rw [hx.2 _ (fun _ => numEnd_of (by decide) _)]
    simp only
    rw [nx_fin (by decide) (by decide)]
    rfl
   | cons y fs =>
    have := ih vs hr (by simp)
    rw [items_eq]
    simp only [commas]
    rw [List.append_assoc, List.cons_append, hx.2 _ (fun _ => numEnd_of (by decide) _)]
    simp only
    rw [nx_more]
    simp only
    rw [this]
    rfl
theorem key_member {ks : List (List UInt8)} {t : List UInt8} (h : t ∉ ks) (r : List UInt8) : key ks (quoted t ++ 58 :: r) = .ok t r := by
 unfold key quoted
 rw [List.cons_append]
 unfold Js.bl
 rw [show blank 34 = false from rfl]
 simp only [Bool.false_eq_true, if_false, if_true]
 rw [List.append_assoc, show [34] ++ 58 :: r = 34 :: 58 :: r from rfl, txt_qc]
 simp only
 rw [if_neg h]
 unfold colon Js.bl
 rw [show blank 58 = false from rfl]
 simp
theorem mems_commas (d : Nat) (rest : List UInt8) : ∀ (ps : List (List UInt8 × List UInt8)) (vs : List (Hd × F)) (ks : List (List UInt8)), All2 (fun p v => RdsAs (d + 1) p.2 v) ps vs -> ps ≠ [] -> (∀ p ∈ ps, p.1 ∉ ks) -> (ps.map Prod.fst).Nodup ->
  mems ks d (commas (ps.map member) ++ 125 :: rest) = .ok ⟨6, 0, [], ps.map Prod.fst⟩ (ofL vs) rest := by
 intro ps
 induction ps with
 | nil => intro vs ks _ h; exact absurd rfl h
 | cons p ps ih =>
  intro vs ks h _ hk hn
  cases h with
  | cons hx hr =>
   rename_i v vs
   have hp := hk p (by simp)
   cases ps with
   | nil =>
    cases hr
    rw [mems_eq]
    simp only [commas, List.map_cons, List.map_nil, member]
    rw [List.append_assoc, List.cons_append, key_member hp]
    simp only
    rw [hx.2 _ (fun _ => numEnd_of (by decide) _)]
    simp only
    rw [nx_fin (by decide) (by decide)]
    rfl
   | cons q ps =>
    rw [List.map_cons, List.nodup_cons] at hn
    have := ih vs (ks ++ [p.1]) hr (by simp) (fun r hr => by
     rw [List.mem_append, List.mem_singleton]
     rintro (h | h)
     . exact hk r (by simp [hr]) h
     . exact hn.1 (by rw [<- h]; exact List.mem_map_of_mem hr)) hn.2
    have e : commas ((p :: q :: ps).map member) = (quoted p.1 ++ 58 :: p.2) ++ 44 :: commas ((q :: ps).map member) := rfl
    rw [mems_eq, e, List.append_assoc, List.append_assoc, List.cons_append, key_member hp]
    simp only
    rw [List.cons_append, hx.2 _ (fun _ => numEnd_of (by decide) _)]
    simp only
    rw [nx_more]
    simp only
    rw [this]
    rfl
def F.All (P : Hd -> Prop) : F -> Prop
 | .nil => True
 | .cons h k r => P h /\ k.All P /\ r.All P
def NumOk (h : Hd) : Prop := -9223372036854775808 ≤ h.num /\ h.num ≤ 9223372036854775807
theorem own_zero {d : Nat} {h : Hd} {n : Nat} (e : own d h n = 0) : ¬ 32 < d /\ 0 ≤ h.kind /\ h.kind ≤ 6 /\ (h.kind = 6 -> h.keys.length = n) /\ (h.kind = 4 -> wrong h.text = none) /\ (h.kind = 6 -> (∀ x ∈ h.keys, wrong x = none) /\ dupL h.keys = false) := by
 unfold own at e
 split at e
 . cases e
 . rename_i h1
   split at e
   . cases e
   . rename_i h2
     split at e
     . cases e
     . rename_i h3
       refine ⟨h1, by omega, by omega, fun _ => by omega, fun e4 => ?_, fun h6 => ?_⟩
       . by_cases hw : wrong h.text = none
         . exact hw
         . exact absurd ⟨e4, hw⟩ h3
       . rw [if_neg (by omega)] at e
         split at e
         . cases e
         . rename_i h4
           split at e
           . cases e
           . rename_i h5
             refine ⟨fun x hx => ?_, by simpa using h5⟩
             by_cases hw : wrong x = none
             . exact hw
             . exact absurd ⟨x, hx, hw⟩ h4
theorem wrongs_zero {d : Nat} {h : Hd} {k : F} (e : wrongs d h k = 0) : own d h k.len = 0 /\ (5 ≤ h.kind -> wrongsF (d + 1) k = 0) := by
 unfold wrongs at e
 simp only at e
 by_cases h1 : own d h k.len = 0
 . simp only [h1, ne_eq, not_true_eq_false, if_false] at e
   exact ⟨h1, fun h5 => by rwa [if_pos h5] at e⟩
 . simp only [ne_eq, h1, not_false_eq_true, if_true] at e
theorem wrongsF_zero {d : Nat} {h : Hd} {k r : F} (e : wrongsF d (.cons h k r) = 0) : wrongs d h k = 0 /\ wrongsF d r = 0 := by
 rw [wrongsF_cons] at e
 by_cases h1 : wrongs d h k = 0
 . rw [if_neg (by simp [h1])] at e; exact ⟨h1, e⟩
 . rw [if_pos h1] at e; exact absurd e h1
theorem nodup_of_dupL {l : List (List UInt8)} (h : dupL l = false) : l.Nodup := by
 induction l with
 | nil => exact List.nodup_nil
 | cons x r ih =>
  simp only [dupL, Bool.or_eq_false_iff, decide_eq_false_iff_not] at h
  exact List.nodup_cons.2 ⟨h.1, ih h.2⟩
theorem commas_beg {x : List UInt8} {fs : List (List UInt8)} (hb : Beg x) (t : List UInt8) (close : UInt8) (hc : close = 93 ∨ close = 125) : opn close (commas (x :: fs) ++ t) = none := by
 have e : ∃ u, commas (x :: fs) ++ t = x ++ u := by
  cases fs with
  | nil => exact ⟨t, rfl⟩
  | cons y r => exact ⟨44 :: commas (y :: r) ++ t, by simp only [commas]; rw [List.append_assoc]⟩
 obtain ⟨u, hu⟩ := e
 rw [hu]
 unfold opn
 rw [hb.bl]
 obtain ⟨c, r, rfl, _, h1, h2⟩ := hb
 rw [List.cons_append]
 simp only
 rw [if_neg (by rcases hc with rfl | rfl; exact h1; exact h2)]
theorem member_beg (p : List UInt8 × List UInt8) : Beg (member p) := ⟨34, _, rfl, rfl, by decide, by decide⟩
theorem zip3_fst {α β γ : Type} : ∀ (a : List α) (b : List β) (c : List γ), b.length = c.length -> (a.zip (b.zip c)).map (fun q => (q.1, q.2.1)) = a.zip b
 | [], _, _, _ => by simp
 | _ :: _, [], _, _ => by simp
 | _ :: _, _ :: _, [], h => by simp at h
 | _ :: a, _ :: b, _ :: c, h => by simp [zip3_fst a b c (by simpa using h)]
theorem zip3_snd {α β γ : Type} : ∀ (a : List α) (b : List β) (c : List γ), b.length = c.length -> (a.zip (b.zip c)).map (fun q => (q.1, q.2.2)) = a.zip c
 | [], _, _, _ => by simp
 | _ :: _, [], [], _ => by simp
 | _ :: _, [], _ :: _, h => by simp at h
 | _ :: _, _ :: _, [], h => by simp at h
 | _ :: a, _ :: b, _ :: c, h => by simp [zip3_snd a b c (by simpa using h)]
theorem zip_all {α β : Type} {R : α -> β -> Prop} {a : List α} {b : List β} (h : All2 R a b) : ∀ p ∈ a.zip b, R p.1 p.2 := by
 induction h with
 | nil => simp
 | cons hx _ ih =>
  intro p hp
  rw [List.zip_cons_cons] at hp
  rcases List.mem_cons.1 hp with rfl | hp
  . exact hx
  . exact ih p hp
theorem mem_zip_snd {α β : Type} {x : α} {y : β} : ∀ {a : List α} {b : List β}, (x, y) ∈ a.zip b -> y ∈ b := fun h => (List.of_mem_zip h).2
theorem map_fst_zip {α β : Type} : ∀ (a : List α) (b : List β), a.length = b.length -> (a.zip b).map Prod.fst = a
 | [], _, _ => by simp
 | _ :: _, [], h => by simp at h
 | _ :: a, _ :: b, h => by simp [map_fst_zip a b (by simpa using h)]
theorem forall2_map {α β γ : Type} {R : β -> γ -> Prop} {f : α -> β} {g : α -> γ} {l : List α} (h : ∀ q ∈ l, R (f q) (g q)) : All2 R (l.map f) (l.map g) := by
 induction l with
 | nil => exact .nil
 | cons q l ih => exact .cons (h q (by simp)) (ih fun x hx => h x (by simp [hx]))
theorem rds_one {d : Nat} {h : Hd} {k : F} (hw : wrongs d h k = 0) (hn : NumOk h) (hk : 5 ≤ h.kind -> All2 (RdsAs (d + 1)) (forms k) (norms k)) : RdsAs d (form h k) (norm h k) := by
 obtain ⟨ho, _⟩ := wrongs_zero hw
 obtain ⟨hd, h0, h6, hlen, _, hkeys⟩ := own_zero ho
 refine ⟨formH_beg _ _, fun rest hrest => ?_⟩
 have hb := formH_beg h (forms k)
 unfold form norm at *
 rcases (by omega : h.kind = 0 ∨ h.kind = 1 ∨ h.kind = 2 ∨ h.kind = 3 ∨ h.kind = 4 ∨ h.kind = 5 ∨ h.kind = 6) with e | e | e | e | e | e | e
 . refine (val_atom hd hb (o := .ok (plainH 0) .nil rest) ?_).trans ?_
   . simp [formH, e, atom, List.isPrefixOf]
   . simp [normV, e]
 . refine (val_atom hd hb (o := .ok (plainH 1) .nil rest) ?_).trans ?_
   . simp [formH, e, atom, List.isPrefixOf]
   . simp [normV, e]
 . refine (val_atom hd hb (o := .ok (plainH 2) .nil rest) ?_).trans ?_
   . simp [formH, e, atom, List.isPrefixOf]
   . simp [normV, e]
 . have e1 : formH h (forms k) = decI h.num := by simp [formH, e]
   have e2 : normV h (norms k) = (⟨3, h.num, [], []⟩, .nil) := by simp [normV, e]
   rw [e1] at hb ⊢
   rw [e2] at hrest ⊢
   exact val_atom hd hb (atom_num hn.1 hn.2 (hrest rfl))
 . have e1 : formH h (forms k) = quoted h.text := by simp [formH, e]
   have e2 : normV h (norms k) = (⟨4, 0, h.text, []⟩, .nil) := by simp [normV, e]
   rw [e1] at hb ⊢
   rw [e2]
   exact val_atom hd hb (atom_txt _ _)
 . have e1 : formH h (forms k) = 91 :: (commas (forms k) ++ [93]) := by simp [formH, e]
   have e2 : normV h (norms k) = (plainH 5, ofL (norms k)) := by simp [normV, e]
   rw [e1, e2]
   have hk := hk (by omega)
   rw [val_eq, List.cons_append]
   unfold Js.bl
   rw [show blank 91 = false from rfl]
   simp only [Bool.false_eq_true, if_false]
   rw [if_neg hd, atom_none (.inl rfl)]
   simp only [if_true]
   rw [List.append_assoc, show [93] ++ rest = 93 :: rest from rfl]
   unfold listO
   generalize forms k = fs at hk ⊢
   generalize norms k = vs at hk ⊢
   cases hk with
   | nil =>
     simp only [commas, List.nil_append]
     unfold opn Js.bl
     rw [show blank 93 = false from rfl]
     simp [ofL]
   | cons hx hr =>
     rw [commas_beg hx.1 _ _ (.inl rfl)]
     simp only
     exact items_commas d rest _ _ (.cons hx hr) (by simp)
 . have e1 : formH h (forms k) = 123 :: (commas ((sortK (h.keys.zip (forms k))).map member) ++ [125]) := by simp [formH, e]
   have e2 : normV h (norms k) = (⟨6, 0, [], (sortK (h.keys.zip (norms k))).map Prod.fst⟩, ofL ((sortK (h.keys.zip (norms k))).map Prod.snd)) := by simp [normV, e]
   rw [e1, e2]
   have hk := hk (by omega)
   obtain ⟨_, hdup⟩ := hkeys e
   have hl := hlen e
   have hfl := forms_len k
   have hnl := norms_len k
   generalize hL : h.keys.zip ((forms k).zip (norms k)) = L
   have hz : (forms k).length = (norms k).length := by omega
   have hp : sortK (h.keys.zip (forms k)) = (sortK L).map fun q => (q.1, q.2.1) := by rw [sortK_map (fun q : List UInt8 × (Hd × F) => q.1) L, <- hL, <- zip3_fst h.keys (forms k) (norms k) hz]
   have hq : sortK (h.keys.zip (norms k)) = (sortK L).map fun q => (q.1, q.2.2) := by rw [sortK_map (fun q : List UInt8 × (Hd × F) => q.2) L, <- hL, <- zip3_snd h.keys (forms k) (norms k) hz]
   have hall : ∀ q ∈ sortK L, RdsAs (d + 1) q.2.1 q.2.2 := fun q hq => by
     have hm := (sortK_perm L).mem_iff.1 hq
     rw [<- hL] at hm
     exact zip_all hk _ (mem_zip_snd (x := q.1) hm)
   have hnd : ((sortK L).map Prod.fst).Nodup := by
     have h1 : ((sortK L).map Prod.fst).Perm (L.map Prod.fst) := (sortK_perm L).map _
     rw [h1.nodup_iff, <- hL, map_fst_zip _ _ (by rw [List.length_zip]; omega)]
     exact nodup_of_dupL hdup
   rw [hp, hq]
   generalize sortK L = S at hall hnd ⊢
   rw [val_eq, List.cons_append]
   unfold Js.bl
   rw [show blank 123 = false from rfl]
   simp only [Bool.false_eq_true, if_false]
   rw [if_neg hd, atom_none (.inr rfl)]
   simp only
   rw [if_neg (by decide), List.append_assoc, show [125] ++ rest = 125 :: rest from rfl]
   unfold objO
   cases S with
   | nil =>
     simp only [List.map_nil, commas, List.nil_append]
     unfold opn Js.bl
     rw [show blank 125 = false from rfl]
     simp [ofL]; rfl
   | cons p S =>
     rw [List.map_cons, List.map_cons, commas_beg (member_beg _) _ _ (.inr rfl)]
     simp only
     have hm := mems_commas d rest ((p :: S).map fun q => (q.1, q.2.1)) ((p :: S).map fun q => q.2.2) [] (forall2_map (R := fun p v => RdsAs (d + 1) p.2 v) (f := fun q : List UInt8 × (List UInt8 × (Hd × F)) => (q.1, q.2.1)) (g := fun q => q.2.2) (fun q hq => hall q hq)) (by simp) (by simp) (by rw [List.map_map]; exact hnd)
     rw [List.map_cons, List.map_cons] at hm
     rw [hm]
     simp [List.map_map, Function.comp_def]
theorem rds_all : ∀ (f : F) (d : Nat), wrongsF d f = 0 -> f.All NumOk -> All2 (RdsAs d) (forms f) (norms f) := by
 intro f
 induction f with
 | nil => intro d _ _; exact .nil
 | cons h k r ihk ihr =>
  intro d hw hn
  obtain ⟨h1, h2⟩ := wrongsF_zero hw
  exact .cons (rds_one h1 hn.1 (fun h5 => ihk (d + 1) ((wrongs_zero h1).2 h5) hn.2.1)) (ihr d h2 hn.2.2)
theorem form_rds {d : Nat} {h : Hd} {k : F} (hw : wrongs d h k = 0) (hh : NumOk h) (hn : k.All NumOk) : RdsAs d (form h k) (norm h k) :=
 rds_one hw hh (fun h5 => rds_all k (d + 1) ((wrongs_zero hw).2 h5) hn)
end Js
end Go.Proofs.YtjohdaobhonioaaGreatDoor
namespace Go.Proofs.YtjohdaobhonioaaGreatDoor
namespace Js
theorem wrong_bl {s : List UInt8} (h : wrong s = none) : wrong (bl s) = none := by
 induction s with
 | nil => rfl
 | cons c r ih =>
  unfold bl
  split
  . rename_i hb
    have hc : c.toNat < 128 := by
     unfold blank at hb
     simp only [Bool.or_eq_true, beq_iff_eq] at hb
     rcases hb with ((rfl | rfl) | rfl) | rfl <;> decide
    rw [wrong_ascii hc] at h
    exact ih h
  . exact h
theorem wrong_pfx {p s : List UInt8} (ha : ∀ c ∈ p, c.toNat < 128) (hp : p.isPrefixOf s = true) (hw : wrong s = none) : wrong (s.drop p.length) = none := by
 obtain ⟨t, rfl⟩ := List.isPrefixOf_iff_prefix.1 hp
 rw [wrong_asciis p t ha] at hw
 rw [List.drop_left]; exact hw
theorem numc_ascii {c : UInt8} (h : numc c = true) : c.toNat < 128 := by
 unfold numc at h
 simp only [Bool.or_eq_true, beq_iff_eq, decide_eq_true_eq] at h
 rcases h with ((((h | rfl) | rfl) | rfl) | rfl) | rfl
 . omega
 all_goals decide
theorem nx_wrong {close : UInt8} {s q : List UInt8} (hc : close.toNat < 128) (h : nx close s = .fin q ∨ nx close s = .more q) (hw : wrong s = none) : wrong q = none := by
 have hb := wrong_bl hw
 unfold nx at h
 split at h
 . rcases h with h | h <;> cases h
 . rename_i c r e
   rw [e] at hb
   split at h
   . rename_i h1
     rcases h with h | h
     . cases h
     . injection h with h; subst h h1
       rwa [wrong_ascii (by decide)] at hb
   . split at h
     . rename_i h1
       rcases h with h | h
       . injection h with h; subst h h1
         rwa [wrong_ascii hc] at hb
       . cases h
     . rcases h with h | h <;> cases h
theorem opn_wrong {close : UInt8} {s q : List UInt8} (hc : close.toNat < 128) (h : opn close s = some q) (hw : wrong s = none) : wrong q = none := by
 have hb := wrong_bl hw
 unfold opn at h
 split at h
 . cases h
 . rename_i c r e
   rw [e] at hb
   split at h
   . rename_i h1
     injection h with h; subst h h1
     rwa [wrong_ascii hc] at hb
   . cases h
theorem key_wrong {ks : List (List UInt8)} {s t q : List UInt8} (h : key ks s = .ok t q) (hw : wrong s = none) : wrong t = none /\ wrong q = none /\ t ∉ ks := by
 have hb := wrong_bl hw
 unfold key at h
 split at h
 . cases h
 . rename_i c r e
   rw [e] at hb
   split at h
   . rename_i h1
     subst h1
     rw [wrong_ascii (by decide)] at hb
     split at h
     . cases h
     . rename_i t2 q2 ht
       obtain ⟨h2, h3⟩ := txt_wrong _ _ _ _ (Nat.le_refl _) hb ht
       split at h
       . cases h
       . rename_i hk
         have hb2 := wrong_bl h3
         unfold colon at h
         split at h
         . cases h
         . rename_i c2 r2 e2
           rw [e2] at hb2
           split at h
           . rename_i h4
             injection h with h5 h6
             subst h4 h5 h6
             rw [wrong_ascii (by decide)] at hb2
             exact ⟨h2, hb2, hk⟩
           . cases h
   . cases h
theorem qc_len (c : UInt8) : (qc c).length ≤ 6 := by unfold qc; split <;> (try split) <;> simp
theorem flat_len (s : List UInt8) : (s.flatMap qc).length ≤ 6 * s.length := by
 induction s with
 | nil => simp
 | cons c s ih => rw [List.flatMap_cons, List.length_append, List.length_cons]; have := qc_len c; omega
theorem quoted_len (s : List UInt8) : (quoted s).length ≤ 6 * s.length + 2 := by
 unfold quoted
 have := flat_len s
 rw [List.length_cons, List.length_append, List.length_cons, List.length_nil]; omega
def sumL (l : List (List UInt8)) : Nat := (l.map List.length).sum
theorem commas_len : ∀ l : List (List UInt8), (commas l).length = sumL l + (l.length - 1)
 | [] => rfl
 | [x] => by simp [commas, sumL]
 | x :: y :: r => by
  have := commas_len (y :: r)
  simp only [commas, sumL, List.map_cons, List.sum_cons, List.length_append, List.length_cons] at this ⊢
  omega
theorem sumL_cons (x : List UInt8) (l : List (List UInt8)) : sumL (x :: l) = x.length + sumL l := by simp [sumL]
theorem sumL_perm {a b : List (List UInt8)} (h : a.Perm b) : sumL a = sumL b := by
 induction h with
 | nil => rfl
 | cons x _ ih => rw [sumL_cons, sumL_cons, ih]
 | swap x y l => rw [sumL_cons, sumL_cons, sumL_cons, sumL_cons]; omega
 | trans _ _ h1 h2 => rw [h1, h2]
theorem wrongs_of {d : Nat} {h : Hd} {k : F} (h0 : own d h k.len = 0) (h1 : 5 ≤ h.kind -> wrongsF (d + 1) k = 0) : wrongs d h k = 0 := by
 unfold wrongs
 simp only [h0, ne_eq, not_true_eq_false, if_false]
 split
 . rename_i h5; exact h1 h5
 . rfl
theorem own_five {d : Nat} (hd : ¬ 32 < d) (n : Nat) : own d (plainH 5) n = 0 := by
 have e : (plainH 5).kind = 5 := rfl
 unfold own
 rw [if_neg hd, if_neg (by omega), if_neg (by rintro ⟨h, _⟩; omega), if_pos (by omega)]
theorem own_six {d : Nat} (hd : ¬ 32 < d) {h : Hd} {n : Nat} (h6 : h.kind = 6) (hl : h.keys.length = n) (hk : ∀ x ∈ h.keys, wrong x = none) (hu : dupL h.keys = false) : own d h n = 0 := by
 unfold own
 rw [if_neg hd, if_neg (by omega), if_neg (by rintro ⟨h, _⟩; omega), if_neg (by omega), if_neg (by rintro ⟨x, hx, hx2⟩; exact hx2 (hk x hx)), if_neg (by simp [hu])]
theorem member_len (p : List UInt8 × List UInt8) : (member p).length ≤ 6 * p.1.length + p.2.length + 3 := by
 unfold member
 have := quoted_len p.1
 rw [List.length_append, List.length_cons]; omega
theorem mem_takeW {p : UInt8 -> Bool} {x : UInt8} : ∀ {l : List UInt8}, x ∈ l.takeWhile p -> p x = true := by
 intro l
 induction l with
 | nil => intro h; cases h
 | cons c r ih =>
  intro h
  rw [List.takeWhile_cons] at h
  split at h
  . rename_i hc
    rcases List.mem_cons.1 h with rfl | h
    . exact hc
    . exact ih h
  . cases h
theorem decI_len_of {m : List UInt8} {z : Int} (h : numOf m = some z) : (decI z).length = m.length /\ NumOk ⟨3, z, [], []⟩ := by
 obtain ⟨h1, h2, h3⟩ := numOf_some.1 h
 exact ⟨by rw [h1], h2, h3⟩
theorem wrongs_atom {d : Nat} (hd : ¬ 32 < d) {h : Hd} (hk : 0 ≤ h.kind /\ h.kind ≤ 4) (ht : h.kind = 4 -> wrong h.text = none) : wrongs d h .nil = 0 := by
 refine wrongs_of ?_ (fun h5 => by omega)
 unfold own
 rw [if_neg hd, if_neg (by omega), if_neg (by rintro ⟨h1, h2⟩; exact h2 (ht h1)), if_pos (by omega)]
theorem atom_good {d : Nat} (hd : ¬ 32 < d) {s : List UInt8} {h : Hd} {k : F} {r : List UInt8} (hx : atom s = some (.ok h k r)) (hw : wrong s = none) :
   wrong r = none /\ k = .nil /\ wrongs d h .nil = 0 /\ NumOk h /\ (form h .nil).length + 6 * r.length ≤ 6 * s.length := by
 unfold atom at hx
 have p0 : NumOk (plainH 0) /\ NumOk (plainH 1) /\ NumOk (plainH 2) := by refine ⟨?_, ?_, ?_⟩ <;> exact ⟨by decide, by decide⟩
 split at hx
 . rename_i hp
   have hl := isPrefixOf_len hp
   simp only [Option.some.injEq, Out.ok.injEq] at hx
   obtain ⟨rfl, rfl, rfl⟩ := hx
   simp only [List.length_cons, List.length_nil] at hl
   exact ⟨wrong_pfx (by decide) hp hw, rfl, wrongs_atom hd (by decide) (by simp [plainH]), p0.1, by rw [List.length_drop]; simp [form, formH, plainH]; omega⟩
 . split at hx
   . rename_i hp
     have hl := isPrefixOf_len hp
     simp only [Option.some.injEq, Out.ok.injEq] at hx
     obtain ⟨rfl, rfl, rfl⟩ := hx
     simp only [List.length_cons, List.length_nil] at hl
     exact ⟨wrong_pfx (by decide) hp hw, rfl, wrongs_atom hd (by decide) (by simp [plainH]), p0.2.1, by rw [List.length_drop]; simp [form, formH, plainH]; omega⟩
   . split at hx
     . rename_i hp
       have hl := isPrefixOf_len hp
       simp only [Option.some.injEq, Out.ok.injEq] at hx
       obtain ⟨rfl, rfl, rfl⟩ := hx
       simp only [List.length_cons, List.length_nil] at hl
       exact ⟨wrong_pfx (by decide) hp hw, rfl, wrongs_atom hd (by decide) (by simp [plainH]), p0.2.2, by rw [List.length_drop]; simp [form, formH, plainH]; omega⟩
     . cases s with
       | nil => cases hx
       | cons c t =>
        simp only at hx
        split at hx
        . rename_i hc
          subst hc
          rw [wrong_ascii (by decide)] at hw
          cases ht : txt t with
          | err no q => rw [ht] at hx; simp [TO.out] at hx
          | ok t2 q =>
            rw [ht] at hx
            simp only [TO.out, Option.some.injEq, Out.ok.injEq] at hx
            obtain ⟨rfl, rfl, rfl⟩ := hx
            have hl := txt_len _ _ _ _ (Nat.le_refl _) ht
            obtain ⟨h1, h2⟩ := txt_wrong _ _ _ _ (Nat.le_refl _) hw ht
            have hq := quoted_len t2
            refine ⟨h2, rfl, wrongs_atom hd (by simp) (fun _ => h1), ⟨by simp, by simp⟩, ?_⟩
            have e : form ⟨4, 0, t2, []⟩ .nil = quoted t2 := by simp [form, formH]
            rw [e, List.length_cons]; omega
        . split at hx
          . cases hx
          . split at hx
            . unfold numOut at hx
              split at hx
              . rename_i z hz
                simp only [Option.some.injEq, Out.ok.injEq] at hx
                obtain ⟨rfl, rfl, rfl⟩ := hx
                obtain ⟨h1, h2⟩ := decI_len_of hz
                have e : form ⟨3, z, [], []⟩ .nil = decI z := by simp [form, formH]
                have hle := (List.takeWhile_prefix numc (l := c :: t)).length_le
                refine ⟨?_, rfl, wrongs_atom hd (by simp) (by simp), h2, by rw [e, h1, List.length_drop]; omega⟩
                have hsp := List.takeWhile_append_dropWhile (p := numc) (l := c :: t)
                have ha : ∀ x ∈ (c :: t).takeWhile numc, x.toNat < 128 := fun x hx => numc_ascii (mem_takeW hx)
                generalize (c :: t).takeWhile numc = m at hsp ha hle ⊢
                rw [<- hsp, wrong_asciis _ _ ha] at hw
                rw [<- hsp, List.drop_left]; exact hw
              . simp at hx
            . simp at hx
def Good (d : Nat) (s : List UInt8) (h : Hd) (f : F) (r : List UInt8) : Kd -> Prop
 | .val => wrongs d h f = 0 /\ NumOk h /\ f.All NumOk /\ (form h f).length + 6 * r.length ≤ 6 * s.length
 | .items => h = plainH 5 /\ wrongsF (d + 1) f = 0 /\ f.All NumOk /\ (commas (forms f)).length + 1 + 6 * r.length ≤ 6 * s.length /\ 0 < f.len
 | .mems ks => h.kind = 6 /\ h.num = 0 /\ wrongsF (d + 1) f = 0 /\ f.All NumOk /\ h.keys.length = f.len /\ (∀ x ∈ h.keys, wrong x = none /\ x ∉ ks) /\ dupL h.keys = false /\ (commas ((h.keys.zip (forms f)).map member)).length + 1 + 6 * r.length ≤ 6 * s.length /\ 0 < f.len
theorem wrongsF_one {d : Nat} {h : Hd} {k r : F} (h1 : wrongs d h k = 0) (h2 : wrongsF d r = 0) : wrongsF d (.cons h k r) = 0 := by
 rw [wrongsF_cons, if_neg (by simp [h1])]; exact h2
theorem rd_good : ∀ (n : Nat) (kd : Kd) (d : Nat) (s : List UInt8) (h : Hd) (f : F) (r : List UInt8), rd n kd d s = .ok h f r -> wrong s = none -> (∀ ks, kd = .mems ks -> d ≤ 32) -> (kd = .items -> d ≤ 32) -> wrong r = none /\ Good d s h f r kd := by
 intro n
 induction n with
 | zero => intro kd d s h f r hx; simp [rd] at hx
 | succ n ih =>
  intro kd d s h f r hx hw hd1 hd2
  cases kd with
  | val =>
   have hb := wrong_bl hw
   have hbl := bl_len s
   unfold rd at hx
   split at hx
   . cases hx
   . rename_i c t hc
     rw [hc] at hb hbl
     simp only [List.length_cons] at hbl
     split at hx
     . cases hx
     . rename_i hd
       split at hx
       . rename_i o ho
         subst hx
         obtain ⟨h1, rfl, h2, h3, h4⟩ := atom_good hd ho hb
         simp only [List.length_cons] at h4
         exact ⟨h1, h2, h3, trivial, by omega⟩
       . rename_i ha
         split at hx
         . rename_i hc91
           subst hc91
           rw [wrong_ascii (by decide)] at hb
           split at hx
           . rename_i q hq
             have hl := opn_len hq
             injection hx with h1 h2 h3
             subst h1 h2 h3
             exact ⟨opn_wrong (by decide) hq hb, wrongs_of (own_five hd _) (fun _ => rfl), ⟨by decide, by decide⟩, trivial, by simp [form, formH, plainH, forms, commas]; omega⟩
           . obtain ⟨h1, rfl, h3, h4, h5, h6⟩ := ih _ _ _ _ _ _ hx hb (by intro ks e; cases e) (fun _ => by omega)
             refine ⟨h1, ?_, ⟨by decide, by decide⟩, h4, ?_⟩
             . exact wrongs_of (own_five hd _) (fun _ => h3)
             . have e : form (plainH 5) f = 91 :: (commas (forms f) ++ [93]) := by simp [form, formH, plainH]
               rw [e, List.length_cons, List.length_append]; simp; omega
         . rename_i hc91
           have hc123 : c = 123 := by
             by_cases h123 : c = 123
             . exact h123
             . exfalso
               unfold atom at ha
               split at ha
               . cases ha
               . split at ha
                 . cases ha
                 . split at ha
                   . cases ha
                   . simp only at ha
                     split at ha
                     . cases ha
                     . rw [if_neg (by rintro (e | e); exact hc91 e; exact h123 e)] at ha
                       split at ha <;> cases ha
           subst hc123
           rw [wrong_ascii (by decide)] at hb
           split at hx
           . rename_i q hq
             have hl := opn_len hq
             injection hx with h1 h2 h3
             subst h1 h2 h3
             exact ⟨opn_wrong (by decide) hq hb, wrongs_of (own_six hd rfl rfl (by simp [plainH]) rfl) (fun _ => rfl), ⟨by decide, by decide⟩, trivial, by simp [form, formH, plainH, forms, commas, sortK]; omega⟩
           . obtain ⟨h1, h2, h2n, h3, h4, h5, h6, h7, h8, h9⟩ := ih _ _ _ _ _ _ hx hb (fun ks _ => by omega) (by intro e; cases e)
             refine ⟨h1, ?_, ⟨by rw [h2n]; decide, by rw [h2n]; decide⟩, h4, ?_⟩
             . exact wrongs_of (own_six hd h2 h5 (fun x hx => (h6 x hx).1) h7) (fun _ => h3)
             . have e : form h f = 123 :: (commas ((sortK (h.keys.zip (forms f))).map member) ++ [125]) := by simp [form, formH, h2]
               have hl : (commas ((sortK (h.keys.zip (forms f))).map member)).length = (commas ((h.keys.zip (forms f)).map member)).length := by
                 have hp := (sortK_perm (h.keys.zip (forms f))).map member
                 rw [commas_len, commas_len, sumL_perm hp, hp.length_eq]
               rw [e, List.length_cons, List.length_append, hl]; simp; omega
  | items =>
   have hd := hd2 rfl
   unfold rd at hx
   split at hx
   . cases hx
   . rename_i h1 k1 r1 he
     obtain ⟨hw1, g1, g2, g3, g4⟩ := ih _ _ _ _ _ _ he hw (by intro ks e; cases e) (by intro e; cases e)
     split at hx
     . cases hx
     . rename_i q hq
       have hl := nx_len (.inl hq)
       injection hx with e1 e2 e3
       subst e1 e2 e3
       exact ⟨nx_wrong (by decide) (.inl hq) hw1, rfl, wrongsF_one g1 rfl, ⟨g2, g3, trivial⟩, by simp only [forms, commas]; unfold form at g4; omega, by simp [F.len]⟩
     . rename_i q hq
       have hl := nx_len (.inr hq)
       have hwq := nx_wrong (by decide) (.inr hq) hw1
       cases hr : rd n .items d q with
       | err no q2 => rw [hr] at hx; cases hx
       | ok h4 k4 r4 =>
         rw [hr] at hx
         injection hx with e1 e2 e3
         subst e1 e2 e3
         obtain ⟨hw2, b1, b2, b3, b4, b5⟩ := ih _ _ _ _ _ _ hr hwq (by intro ks e; cases e) hd2
         refine ⟨hw2, b1, wrongsF_one g1 b2, ⟨g2, g3, b3⟩, ?_, by simp [F.len]⟩
         rw [commas_len] at b4 ⊢
         unfold form at g4
         have hfl := forms_len k4
         simp only [forms, sumL, List.map_cons, List.sum_cons, List.length_cons] at b4 ⊢
         omega
  | mems ks =>
   have hd := hd1 ks rfl
   unfold rd at hx
   split at hx
   . cases hx
   . rename_i t p hp
     have hkl := key_len hp
     obtain ⟨hwt, hwp, htk⟩ := key_wrong hp hw
     split at hx
     . cases hx
     . rename_i h1 k1 r1 he
       obtain ⟨hw1, g1, g2, g3, g4⟩ := ih _ _ _ _ _ _ he hwp (by intro ks e; cases e) (by intro e; cases e)
       split at hx
       . cases hx
       . rename_i q hq
         have hl := nx_len (.inl hq)
         injection hx with e1 e2 e3
         subst e1 e2 e3
         have hm := member_len (t, formH h1 (forms k1))
         unfold form at g4
         exact ⟨nx_wrong (by decide) (.inl hq) hw1, rfl, rfl, wrongsF_one g1 rfl, ⟨g2, g3, trivial⟩, rfl, by simp [hwt, htk], by simp [dupL], by simp only [forms, List.zip_cons_cons, List.zip_nil_left, List.map_cons, List.map_nil, commas]; simp only at hm; omega, by simp [F.len]⟩
       . rename_i q hq
         have hl := nx_len (.inr hq)
         have hwq := nx_wrong (by decide) (.inr hq) hw1
         cases hr : rd n (.mems (ks ++ [t])) d q with
         | err no q2 => rw [hr] at hx; cases hx
         | ok h4 k4 r4 =>
           rw [hr] at hx
           injection hx with e1 e2 e3
           subst e1 e2 e3
           obtain ⟨hw2, b1, b1n, b2, b3, b4, b5, b6, b7, b8⟩ := ih _ _ _ _ _ _ hr hwq (fun ks _ => hd) (by intro e; cases e)
           have hm := member_len (t, formH h1 (forms k1))
           unfold form at g4
           refine ⟨hw2, b1, b1n, wrongsF_one g1 b2, ⟨g2, g3, b3⟩, by simp [F.len, b4], ?_, ?_, ?_, by simp [F.len]⟩
           . intro x hx
             rcases List.mem_cons.1 hx with rfl | hx
             . exact ⟨hwt, htk⟩
             . obtain ⟨c1, c2⟩ := b5 x hx
               exact ⟨c1, fun h => c2 (by simp [h])⟩
           . simp only [dupL, Bool.or_eq_false_iff, decide_eq_false_iff_not]
             exact ⟨fun h => (b5 t h).2 (by simp), b6⟩
           . have hfl := forms_len k4
             rw [commas_len] at b7 ⊢
             simp only [forms, List.zip_cons_cons, List.map_cons, sumL, List.sum_cons, List.length_cons, List.length_map, List.length_zip] at b7 hm ⊢
             omega
theorem val_good {d : Nat} {s : List UInt8} {h : Hd} {f : F} {r : List UInt8} (hx : val d s = .ok h f r) (hw : wrong s = none) : wrong r = none /\ wrongs d h f = 0 /\ NumOk h /\ f.All NumOk /\ (form h f).length + 6 * r.length ≤ 6 * s.length :=
 rd_good _ _ _ _ _ _ _ hx hw (by intro ks e; cases e) (by intro e; cases e)
end Js
end Go.Proofs.YtjohdaobhonioaaGreatDoor
namespace Go.Proofs.YtjohdaobhonioaaGreatDoor
namespace Js
theorem bl_app {s : List UInt8} {c : UInt8} {r : List UInt8} (h : bl s = c :: r) (x : List UInt8) : bl (s ++ x) = c :: (r ++ x) := by
 induction s with
 | nil => cases h
 | cons d t ih =>
  rw [List.cons_append]
  unfold bl at h ⊢
  split at h
  . rename_i hb
    rw [if_pos hb]
    exact ih h
  . rename_i hb
    injection h with h1 h2
    subst h1 h2
    rw [if_neg hb]
theorem nx_app {close : UInt8} {s q : List UInt8} (x : List UInt8) : (nx close s = .fin q -> nx close (s ++ x) = .fin (q ++ x)) /\ (nx close s = .more q -> nx close (s ++ x) = .more (q ++ x)) := by
 unfold nx
 cases hb : bl s with
 | nil => exact ⟨(fun h => by cases h), (fun h => by cases h)⟩
 | cons c r =>
  rw [bl_app hb x]
  simp only
  by_cases h1 : c = 44
  . rw [if_pos h1, if_pos h1]
    exact ⟨(fun h => by cases h), (fun h => by injection h with h; rw [h])⟩
  . rw [if_neg h1, if_neg h1]
    by_cases h2 : c = close
    . rw [if_pos h2, if_pos h2]
      exact ⟨(fun h => by injection h with h; rw [h]), (fun h => by cases h)⟩
    . rw [if_neg h2, if_neg h2]
      exact ⟨(fun h => by cases h), (fun h => by cases h)⟩
theorem nx_ne {close : UInt8} {s q : List UInt8} (h : nx close s = .fin q ∨ nx close s = .more q) : s ≠ [] := by
 rintro rfl
 rcases h with h | h <;> simp [nx, bl] at h
theorem opn_app {close : UInt8} {s : List UInt8} (x : List UInt8) (hs : bl s ≠ []) : opn close (s ++ x) = (opn close s).map (· ++ x) := by
 unfold opn
 cases hb : bl s with
 | nil => exact absurd hb hs
 | cons c r =>
  rw [bl_app hb x]
  simp only
  split <;> rfl
theorem colon_app {t s t' q : List UInt8} (h : colon t s = .ok t' q) (x : List UInt8) : colon t (s ++ x) = .ok t' (q ++ x) := by
 unfold colon at h ⊢
 cases hb : bl s with
 | nil => rw [hb] at h; cases h
 | cons c r =>
  rw [hb] at h
  rw [bl_app hb x]
  simp only at h ⊢
  split at h
  . rename_i hc
    rw [if_pos hc]
    injection h with h1 h2
    rw [h1, h2]
  . cases h
theorem unitD_app : ∀ (n v : Nat) (s x : List UInt8) (u : Nat), unitD n v s = .val u -> unitD n v (s ++ x) = .val u := by
 intro n
 induction n with
 | zero => intro v s x u h; exact h
 | succ n ih =>
  intro v s x u h
  cases s with
  | nil => simp [unitD] at h
  | cons c r =>
   rw [List.cons_append]
   unfold unitD at h ⊢
   cases hc : hexd c with
   | none => rw [hc] at h; cases h
   | some d => rw [hc] at h; exact ih _ _ _ _ h
theorem unit_app {s : List UInt8} {u : Nat} (h : unit s = .val u) (x : List UInt8) : unit (s ++ x) = .val u := by
 unfold unit at h
 split at h
 . cases h
 . rename_i c r
   split at h
   . rename_i hc
     split at h
     . cases h
     . rename_i d t
       split at h
       . rename_i hd
         subst hc hd
         rw [List.cons_append, List.cons_append]
         simp only [unit, if_true]
         exact unitD_app _ _ _ _ _ h
       . cases h
   . cases h
theorem tstep_app {s b r : List UInt8} (h : tstep s = .emit b r) (x : List UInt8) : tstep (s ++ x) = .emit b (r ++ x) := by
 cases s with
 | nil => simp [tstep] at h
 | cons c t =>
  rw [List.cons_append]
  rw [tstep_cons] at h ⊢
  split at h
  . cases h
  . rename_i h1
    rw [if_neg h1]
    split at h
    . cases h
    . rename_i h2
      rw [if_neg h2]
      split at h
      . rename_i h3
        rw [if_pos h3]
        cases t with
        | nil => simp [esc] at h
        | cons c1 t =>
         rw [List.cons_append]
         unfold esc at h ⊢
         simp only at h ⊢
         cases hs : simple c1 with
         | some b1 =>
          rw [hs] at h
          injection h with h4 h5
          subst h4 h5
          rfl
         | none =>
          rw [hs] at h
          simp only at h ⊢
          rw [<- List.cons_append, <- List.cons_append]
          generalize c :: c1 :: t = q at h ⊢
          unfold esc1 at h ⊢
          cases hu : unit q with
          | bad => rw [hu] at h; cases h
          | short => rw [hu] at h; cases h
          | val v =>
           rw [hu] at h
           rw [unit_app hu]
           obtain ⟨hl, _⟩ := unit_val hu
           have hdrop : (q ++ x).drop 6 = q.drop 6 ++ x := by rw [List.drop_append_of_le_length hl]
           simp only at h ⊢
           split at h
           . rename_i h4
             rw [if_pos h4, hdrop]
             injection h with h5 h6
             rw [h5, h6]
           . rename_i h4
             rw [if_neg h4]
             split at h
             . cases h
             . rename_i h5
               rw [if_neg h5]
               unfold esc2 at h ⊢
               rw [hdrop]
               cases hv : unit (q.drop 6) with
               | bad => rw [hv] at h; cases h
               | short => rw [hv] at h; cases h
               | val y =>
                rw [hv] at h
                rw [unit_app hv]
                obtain ⟨hl2, _⟩ := unit_val hv
                rw [List.length_drop] at hl2
                simp only at h ⊢
                split at h
                . rename_i h6
                  rw [if_pos h6, List.drop_append_of_le_length (by omega)]
                  obtain ⟨h7, h8⟩ := TS.emit.inj h
                  subst h8
                  exact congrArg (fun z => TS.emit z (q.drop 12 ++ x)) h7
                . cases h
      . rename_i h3
        rw [if_neg h3]
        injection h with h4 h5
        subst h4 h5
        rfl
theorem txt_app : ∀ (n : Nat) (s t r : List UInt8), s.length ≤ n -> txt s = .ok t r -> ∀ x, txt (s ++ x) = .ok t (r ++ x) := by
 intro n
 induction n with
 | zero =>
  intro s t r h hx
  obtain rfl := List.length_eq_zero_iff.1 (Nat.le_zero.1 h)
  rw [txt_eq] at hx
  simp [tstep] at hx
 | succ n ih =>
  intro s t r h hx x
  rw [txt_eq] at hx
  cases ht : tstep s with
  | fin q =>
   rw [ht] at hx
   injection hx with h1 h2
   subst h1 h2
   rw [tstep_fin ht, List.cons_append, txt_eq]
   rfl
  | err no q => rw [ht] at hx; cases hx
  | emit b q =>
   rw [ht] at hx
   simp only at hx
   have hl := tstep_emit ht
   rw [txt_eq, tstep_app ht]
   cases hq : txt q with
   | err no r2 => rw [hq] at hx; cases hx
   | ok t2 r2 =>
    rw [hq] at hx
    injection hx with h1 h2
    subst h1 h2
    simp only
    rw [ih q t2 r2 (by omega) hq x]
    rfl
theorem key_app {ks : List (List UInt8)} {s t q : List UInt8} (h : key ks s = .ok t q) (x : List UInt8) : key ks (s ++ x) = .ok t (q ++ x) := by
 unfold key at h ⊢
 cases hb : bl s with
 | nil => rw [hb] at h; cases h
 | cons c r =>
  rw [hb] at h
  rw [bl_app hb x]
  simp only at h ⊢
  split at h
  . rename_i hc
    rw [if_pos hc]
    split at h
    . cases h
    . rename_i t2 q2 ht
      rw [txt_app _ _ _ _ (Nat.le_refl _) ht x]
      simp only
      split at h
      . cases h
      . rename_i hk
        rw [if_neg hk]
        exact colon_app h x
  . cases h
theorem takeWhile_app {s : List UInt8} (x : List UInt8) (h : s.drop (s.takeWhile numc).length ≠ []) : (s ++ x).takeWhile numc = s.takeWhile numc := by
 induction s with
 | nil => exact absurd rfl h
 | cons c r ih =>
  rw [List.cons_append, List.takeWhile_cons, List.takeWhile_cons]
  by_cases hc : numc c = true
  . rw [if_pos hc, if_pos hc]
    rw [List.takeWhile_cons, if_pos hc] at h
    rw [ih (by simpa using h)]
  . rw [if_neg hc, if_neg hc]
theorem isPrefixOf_app {p s : List UInt8} (h : p.isPrefixOf s = true) (x : List UInt8) : p.isPrefixOf (s ++ x) = true := by
 obtain ⟨t, rfl⟩ := List.isPrefixOf_iff_prefix.1 h
 rw [List.append_assoc]
 exact List.isPrefixOf_iff_prefix.2 (List.prefix_append _ _)
theorem pfx_head {a : UInt8} {p s : List UInt8} (h : (a :: p).isPrefixOf s = true) : ∃ r, s = a :: r := by
 cases s with
 | nil => simp [List.isPrefixOf] at h
 | cons b r =>
  simp only [List.isPrefixOf, Bool.and_eq_true, beq_iff_eq] at h
  exact ⟨r, by rw [h.1]⟩
theorem atom_app {s : List UInt8} {h : Hd} {k : F} {r : List UInt8} (hx : atom s = some (.ok h k r)) (hr : h.kind = 3 -> r ≠ []) (x : List UInt8) : atom (s ++ x) = some (.ok h k (r ++ x)) := by
 unfold atom at hx
 split at hx
 . rename_i hp
   have hl := isPrefixOf_len hp
   simp only [Option.some.injEq, Out.ok.injEq] at hx
   obtain ⟨rfl, rfl, rfl⟩ := hx
   unfold atom
   rw [if_pos (isPrefixOf_app hp x), List.drop_append_of_le_length (by simpa using hl)]
 . split at hx
   . rename_i hp
     have hl := isPrefixOf_len hp
     simp only [Option.some.injEq, Out.ok.injEq] at hx
     obtain ⟨rfl, rfl, rfl⟩ := hx
     obtain ⟨q, hq⟩ := pfx_head hp
     unfold atom
     have h1 : [110, 117, 108, 108].isPrefixOf (s ++ x) = false := by rw [hq, List.cons_append]; exact pfx_false (by decide)
     rw [h1, if_neg (by decide), if_pos (isPrefixOf_app hp x), List.drop_append_of_le_length (by simpa using hl)]
   . split at hx
     . rename_i hp
       have hl := isPrefixOf_len hp
       simp only [Option.some.injEq, Out.ok.injEq] at hx
       obtain ⟨rfl, rfl, rfl⟩ := hx
       obtain ⟨q, hq⟩ := pfx_head hp
       unfold atom
       have h1 : [110, 117, 108, 108].isPrefixOf (s ++ x) = false := by rw [hq, List.cons_append]; exact pfx_false (by decide)
       have h2 : [102, 97, 108, 115, 101].isPrefixOf (s ++ x) = false := by rw [hq, List.cons_append]; exact pfx_false (by decide)
       rw [h1, h2, if_neg (by decide), if_neg (by decide), if_pos (isPrefixOf_app hp x), List.drop_append_of_le_length (by simpa using hl)]
     . cases s with
       | nil => cases hx
       | cons c t =>
        simp only at hx
        split at hx
        . rename_i hc
          subst hc
          cases ht : txt t with
          | err no q => rw [ht] at hx; simp [TO.out] at hx
          | ok t2 q =>
            rw [ht] at hx
            simp only [TO.out, Option.some.injEq, Out.ok.injEq] at hx
            obtain ⟨rfl, rfl, rfl⟩ := hx
            rw [List.cons_append]
            unfold atom
            rw [pfx_false (by decide), pfx_false (by decide), pfx_false (by decide)]
            simp only [Bool.false_eq_true, if_false, if_true]
            rw [txt_app _ _ _ _ (Nat.le_refl _) ht x]
            rfl
        . split at hx
          . cases hx
          . split at hx
            . rename_i hc
              obtain ⟨_, _, _, h34, h91, h123, h110, h102, h116⟩ := dig_not_blank hc
              unfold numOut at hx
              split at hx
              . rename_i z hz
                simp only [Option.some.injEq, Out.ok.injEq] at hx
                obtain ⟨rfl, rfl, rfl⟩ := hx
                have ht := takeWhile_app x (hr rfl)
                have ho : numOut ((c :: t) ++ x) = .ok ⟨3, z, [], []⟩ .nil ((c :: t).drop ((c :: t).takeWhile numc).length ++ x) := by
                 unfold numOut
                 rw [ht, hz]
                 simp only
                 rw [List.drop_append_of_le_length (List.takeWhile_prefix numc).length_le]
                rw [List.cons_append] at ho ⊢
                unfold atom
                rw [pfx_false h110, pfx_false h102, pfx_false h116]
                simp only [Bool.false_eq_true, if_false]
                rw [if_neg h34, if_neg (by rintro (h | h); exact h91 h; exact h123 h), if_pos hc, ho]
              . simp at hx
            . simp at hx
theorem atom_brk {c : UInt8} {r : List UInt8} (h : atom (c :: r) = none) : c = 91 ∨ c = 123 := by
 unfold atom at h
 split at h
 . cases h
 . split at h
   . cases h
   . split at h
     . cases h
     . simp only at h
       split at h
       . cases h
       . split at h
         . assumption
         . split at h <;> cases h
def fn : Kd -> Nat -> List UInt8 -> Out
 | .val, d, s => val d s
 | .items, d, s => items d s
 | .mems ks, d, s => mems ks d s
theorem opn_none_app {close : UInt8} {s : List UInt8} (x : List UInt8) (h : opn close s = none) (hs : bl s ≠ []) : opn close (s ++ x) = none := by rw [opn_app x hs, h]; rfl
theorem rd_ne : ∀ (n : Nat) (kd : Kd) (d : Nat) (s : List UInt8) (h : Hd) (f : F) (r : List UInt8), rd n kd d s = .ok h f r -> bl s ≠ [] := by
 intro n
 induction n with
 | zero => intro kd d s h f r hx; simp [rd] at hx
 | succ n ih =>
  intro kd d s h f r hx hb
  cases kd with
  | val => unfold rd at hx; rw [hb] at hx; cases hx
  | items =>
   unfold rd at hx
   cases he : rd n .val (d + 1) s with
   | err no r => rw [he] at hx; cases hx
   | ok h1 k1 r1 => exact ih _ _ _ _ _ _ he hb
  | mems ks => unfold rd key at hx; rw [hb] at hx; cases hx
theorem rd_app : ∀ (n : Nat) (kd : Kd) (d : Nat) (s : List UInt8) (h : Hd) (f : F) (r : List UInt8), rd n kd d s = .ok h f r -> (kd = .val -> h.kind = 3 -> r ≠ []) -> ∀ x, fn kd d (s ++ x) = .ok h f (r ++ x) := by
 intro n
 induction n with
 | zero => intro kd d s h f r hx; simp [rd] at hx
 | succ n ih =>
  intro kd d s h f r hx hk x
  cases kd with
  | val =>
   show val d (s ++ x) = _
   rw [val_eq]
   unfold rd at hx
   cases hb : bl s with
   | nil => rw [hb] at hx; cases hx
   | cons c t =>
    rw [hb] at hx
    rw [bl_app hb x]
    simp only at hx ⊢
    split at hx
    . cases hx
    . rename_i hd
      rw [if_neg hd]
      cases ha : atom (c :: t) with
      | some o =>
       rw [ha] at hx
       simp only at hx
       subst hx
       have := atom_app ha (hk rfl) x
       rw [List.cons_append] at this
       rw [this]
      | none =>
       rw [ha] at hx
       have hc := atom_brk ha
       rw [atom_none hc]
       simp only at hx ⊢
       by_cases h91 : c = 91
       . rw [if_pos h91] at hx ⊢
         unfold listO
         cases ho : opn 93 t with
         | some q =>
          rw [ho] at hx
          simp only [Out.ok.injEq] at hx
          obtain ⟨rfl, rfl, rfl⟩ := hx
          rw [opn_app x (by intro e; unfold opn at ho; rw [e] at ho; cases ho), ho]
          rfl
         | none =>
          rw [ho] at hx
          have h2 := ih _ _ _ _ _ _ hx (by intro e; cases e) x
          rw [opn_none_app x ho (rd_ne _ _ _ _ _ _ _ hx)]
          exact h2
       . rw [if_neg h91] at hx ⊢
         unfold objO
         cases ho : opn 125 t with
         | some q =>
          rw [ho] at hx
          simp only [Out.ok.injEq] at hx
          obtain ⟨rfl, rfl, rfl⟩ := hx
          rw [opn_app x (by intro e; unfold opn at ho; rw [e] at ho; cases ho), ho]
          rfl
         | none =>
          rw [ho] at hx
          have h2 := ih _ _ _ _ _ _ hx (by intro e; cases e) x
          rw [opn_none_app x ho (rd_ne _ _ _ _ _ _ _ hx)]
          exact h2
  | items =>
   show items d (s ++ x) = _
   rw [items_eq]
   unfold rd at hx
   cases he : rd n .val (d + 1) s with
   | err no r => rw [he] at hx; cases hx
   | ok h1 k1 r1 =>
    rw [he] at hx
    simp only at hx
    cases hq : nx 93 r1 with
    | err no q => rw [hq] at hx; cases hx
    | fin q =>
      rw [hq] at hx
      simp only [Out.ok.injEq] at hx
      obtain ⟨rfl, rfl, rfl⟩ := hx
      have h2 : val (d + 1) (s ++ x) = _ := ih _ _ _ _ _ _ he (fun _ _ => nx_ne (.inl hq)) x
      rw [h2]
      simp only
      rw [(nx_app x).1 hq]
    | more q =>
      rw [hq] at hx
      simp only at hx
      have h2 : val (d + 1) (s ++ x) = _ := ih _ _ _ _ _ _ he (fun _ _ => nx_ne (.inr hq)) x
      rw [h2]
      simp only
      rw [(nx_app x).2 hq]
      cases hr : rd n .items d q with
      | err no q2 => rw [hr] at hx; cases hx
      | ok h4 k4 r4 =>
       rw [hr] at hx
       simp only [Out.consL, Out.ok.injEq] at hx
       obtain ⟨rfl, rfl, rfl⟩ := hx
       have h3 : items d (q ++ x) = _ := ih _ _ _ _ _ _ hr (by intro e; cases e) x
       simp only
       rw [h3]
       rfl
  | mems ks =>
   show mems ks d (s ++ x) = _
   rw [mems_eq]
   unfold rd at hx
   cases hp : key ks s with
   | err no r => rw [hp] at hx; cases hx
   | ok t p =>
    rw [hp] at hx
    rw [key_app hp x]
    simp only at hx ⊢
    cases he : rd n .val (d + 1) p with
    | err no r => rw [he] at hx; cases hx
    | ok h1 k1 r1 =>
      rw [he] at hx
      simp only at hx
      cases hq : nx 125 r1 with
      | err no q => rw [hq] at hx; cases hx
      | fin q =>
       rw [hq] at hx
       simp only [Out.ok.injEq] at hx
       obtain ⟨rfl, rfl, rfl⟩ := hx
       have h2 : val (d + 1) (p ++ x) = _ := ih _ _ _ _ _ _ he (fun _ _ => nx_ne (.inl hq)) x
       rw [h2]
       simp only
       rw [(nx_app x).1 hq]
      | more q =>
       rw [hq] at hx
       simp only at hx
       have h2 : val (d + 1) (p ++ x) = _ := ih _ _ _ _ _ _ he (fun _ _ => nx_ne (.inr hq)) x
       rw [h2]
       simp only
       rw [(nx_app x).2 hq]
       cases hr : rd n (.mems (ks ++ [t])) d q with
       | err no q2 => rw [hr] at hx; cases hx
       | ok h4 k4 r4 =>
         rw [hr] at hx
         simp only [Out.consM, Out.ok.injEq] at hx
         obtain ⟨rfl, rfl, rfl⟩ := hx
         have h3 : mems (ks ++ [t]) d (q ++ x) = _ := ih _ _ _ _ _ _ hr (by intro e; cases e) x
         simp only
         rw [h3]
         rfl
theorem val_app {d : Nat} {s : List UInt8} {h : Hd} {f : F} {r : List UInt8} (hx : val d s = .ok h f r) (hk : h.kind = 3 -> r ≠ []) (x : List UInt8) : val d (s ++ x) = .ok h f (r ++ x) :=
 rd_app _ _ _ _ _ _ _ hx (fun _ => hk) x
theorem val_num {d : Nat} {s : List UInt8} {h : Hd} {f : F} {r : List UInt8} (hx : val d s = .ok h f r) (h3 : h.kind = 3) : ∃ c t, bl s = c :: t /\ (c = 45 ∨ (48 ≤ c.toNat /\ c.toNat ≤ 57)) := by
 rw [val_eq] at hx
 cases hb : bl s with
 | nil => rw [hb] at hx; cases hx
 | cons c t =>
  rw [hb] at hx
  simp only at hx
  refine ⟨c, t, rfl, ?_⟩
  split at hx
  . cases hx
  . cases ha : atom (c :: t) with
    | none =>
     rw [ha] at hx
     simp only at hx
     exfalso
     split at hx
     . unfold listO at hx
       split at hx
       . injection hx with e _ _; rw [<- e] at h3; cases h3
       . rw [items_eq] at hx
         split at hx
         . cases hx
         . split at hx
           . cases hx
           . injection hx with e _ _; rw [<- e] at h3; cases h3
           . rename_i q _
             have key : ∀ (n : Nat) (q : List UInt8), q.length ≤ n -> ∀ h f r, items d q = .ok h f r -> h = plainH 5 := by
               intro n
               induction n with
               | zero =>
                 intro q hq h f r hi
                 obtain rfl := List.length_eq_zero_iff.1 (Nat.le_zero.1 hq)
                 rw [items_eq, val_eq] at hi
                 cases hi
               | succ n ih =>
                 intro q hq h f r hi
                 rw [items_eq] at hi
                 split at hi
                 . cases hi
                 . rename_i hv
                   have hl := val_len hv
                   split at hi
                   . cases hi
                   . injection hi with e _ _; exact e.symm
                   . rename_i q2 hq2
                     have hl2 := nx_len (.inr hq2)
                     cases hr : items d q2 with
                     | err no q3 => rw [hr] at hi; cases hi
                     | ok h4 f4 r4 =>
                      rw [hr] at hi
                      injection hi with e _ _
                      rw [<- e]
                      exact ih q2 (by omega) _ _ _ hr
             cases hr : items d q with
             | err no q3 => rw [hr] at hx; cases hx
             | ok h4 f4 r4 =>
               rw [hr] at hx
               injection hx with e _ _
               rw [<- e, key _ q (Nat.le_refl _) _ _ _ hr] at h3
               cases h3
     . unfold objO at hx
       split at hx
       . injection hx with e _ _; rw [<- e] at h3; cases h3
       . have key : ∀ (n : Nat) (q : List UInt8) (ks : List (List UInt8)), q.length ≤ n -> ∀ h f r, mems ks d q = .ok h f r -> h.kind = 6 := by
           intro n
           induction n with
           | zero =>
             intro q ks hq h f r hi
             obtain rfl := List.length_eq_zero_iff.1 (Nat.le_zero.1 hq)
             rw [mems_eq] at hi
             cases hi
           | succ n ih =>
             intro q ks hq h f r hi
             rw [mems_eq] at hi
             split at hi
             . cases hi
             . rename_i hk
               have hl0 := key_len hk
               split at hi
               . cases hi
               . rename_i hv
                 have hl := val_len hv
                 split at hi
                 . cases hi
                 . injection hi with e _ _; rw [<- e]
                 . rename_i q2 hq2
                   have hl2 := nx_len (.inr hq2)
                   cases hr : mems _ d q2 with
                   | err no q3 => rw [hr] at hi; cases hi
                   | ok h4 f4 r4 =>
                     rw [hr] at hi
                     injection hi with e _ _
                     rw [<- e]
                     show h4.kind = 6
                     exact ih q2 _ (by omega) _ _ _ hr
         have := key _ _ _ (Nat.le_refl _) _ _ _ hx
         omega
    | some o =>
     rw [ha] at hx
     simp only at hx
     subst hx
     unfold atom at ha
     split at ha
     . simp only [Option.some.injEq, Out.ok.injEq] at ha; rw [<- ha.1] at h3; cases h3
     . split at ha
       . simp only [Option.some.injEq, Out.ok.injEq] at ha; rw [<- ha.1] at h3; cases h3
       . split at ha
         . simp only [Option.some.injEq, Out.ok.injEq] at ha; rw [<- ha.1] at h3; cases h3
         . simp only at ha
           split at ha
           . cases ht : txt t with
             | err no q => rw [ht] at ha; simp [TO.out] at ha
             | ok t2 q =>
               rw [ht] at ha
               simp only [TO.out, Option.some.injEq, Out.ok.injEq] at ha
               rw [<- ha.1] at h3; cases h3
           . split at ha
             . cases ha
             . split at ha
               . assumption
               . simp at ha
theorem heads {d : Nat} {h : Hd} {k : F} (hr : RdsAs d (form h k) (norm h k)) (h3 : (norm h k).1.kind ≠ 3) {p x : List UInt8} (e : p ++ x = form h k) (hx : x ≠ []) {h1 : Hd} {f1 : F} {r : List UInt8} (hp : val d p = .ok h1 f1 r) : False := by
 have hf := hr.2 [] (fun h => absurd h h3)
 rw [List.append_nil, <- e] at hf
 by_cases hc : h1.kind = 3
 . obtain ⟨c, t, hb, hd⟩ := val_num hp hc
   have hb2 := bl_app hb x
   have hv := hf
   rw [val_eq, hb2] at hv
   simp only at hv
   split at hv
   . cases hv
   . obtain ⟨_, _, _, h34, h91, h123, h110, h102, h116⟩ := dig_not_blank hd
     unfold atom at hv
     rw [pfx_false h110, pfx_false h102, pfx_false h116] at hv
     simp only [Bool.false_eq_true, if_false] at hv
     rw [if_neg h34, if_neg (by rintro (h | h); exact h91 h; exact h123 h), if_pos hd] at hv
     simp only at hv
     unfold numOut at hv
     split at hv
     . injection hv with e1 _ _
       rw [<- e1] at h3
       exact h3 rfl
     . cases hv
 . have h2 := val_app hp (fun h4 => absurd h4 hc) x
   rw [h2] at hf
   injection hf with _ _ h6
   have := congrArg List.length h6
   rw [List.length_append, List.length_nil] at this
   exact hx (List.length_eq_zero_iff.1 (by omega))
end Js
end Go.Proofs.YtjohdaobhonioaaGreatDoor
namespace Go.Proofs.YtjohdaobhonioaaGreatDoor
namespace Js
theorem lexL_irrefl (a : List UInt8) : lexL a a = false := by
 induction a with
 | nil => rfl
 | cons x a ih => simp [lexL, ih]
theorem lexL_total : ∀ a b : List UInt8, a = b ∨ lexL a b = true ∨ lexL b a = true
 | [], [] => .inl rfl
 | [], _ :: _ => .inr (.inl rfl)
 | _ :: _, [] => .inr (.inr rfl)
 | x :: a, y :: b => by
  rcases Nat.lt_trichotomy x.toNat y.toNat with h | h | h
  . exact .inr (.inl (by simp [lexL, h]))
  . have e : x = y := UInt8.toNat_inj.1 h
    rcases lexL_total a b with h1 | h1 | h1
    . exact .inl (by rw [e, h1])
    . exact .inr (.inl (by simp [lexL, h, h1]))
    . exact .inr (.inr (by simp [lexL, h, h1]))
  . exact .inr (.inr (by simp [lexL, h]))
theorem lexL_trans : ∀ {a b c : List UInt8}, lexL a b = true -> lexL b c = true -> lexL a c = true
 | _, [], _, h, _ => by simp [lexL] at h
 | [], _ :: _, [], _, h => by cases h
 | [], _ :: _, _ :: _, _, _ => rfl
 | _ :: _, _ :: _, [], _, h => by simp [lexL] at h
 | x :: a, y :: b, z :: c, h1, h2 => by
  simp only [lexL, Bool.or_eq_true, decide_eq_true_eq, Bool.and_eq_true, beq_iff_eq] at h1 h2 ⊢
  rcases h1 with h1 | ⟨h1, h3⟩
  . rcases h2 with h2 | ⟨h2, _⟩
    . exact .inl (by omega)
    . exact .inl (by omega)
  . rcases h2 with h2 | ⟨h2, h4⟩
    . exact .inl (by omega)
    . exact .inr ⟨by omega, lexL_trans h3 h4⟩
def Srt {α : Type} (l : List (List UInt8 × α)) : Prop := l.Pairwise fun p q => lexL p.1 q.1 = true
theorem mem_ins {α : Type} {p x : List UInt8 × α} {l : List (List UInt8 × α)} : x ∈ ins p l ↔ x = p ∨ x ∈ l := by
 rw [(ins_perm p l).mem_iff, List.mem_cons]
theorem ins_srt {α : Type} {p : List UInt8 × α} {l : List (List UInt8 × α)} (h : Srt l) (hp : ∀ q ∈ l, q.1 ≠ p.1) : Srt (ins p l) := by
 induction l with
 | nil => exact List.pairwise_singleton _ _
 | cons q r ih =>
  have h' := List.pairwise_cons.1 h
  simp only [ins]
  split
  . rename_i hq
    refine List.pairwise_cons.2 ⟨fun x hx => ?_, ih h'.2 (fun y hy => hp y (by simp [hy]))⟩
    rcases mem_ins.1 hx with rfl | hx
    . exact hq
    . exact h'.1 x hx
  . rename_i hq
    have hpq : lexL p.1 q.1 = true := by
      rcases lexL_total p.1 q.1 with h1 | h1 | h1
      . exact absurd h1.symm (hp q (by simp))
      . exact h1
      . exact absurd h1 hq
    refine List.pairwise_cons.2 ⟨fun x hx => ?_, h⟩
    rcases List.mem_cons.1 hx with rfl | hx
    . exact hpq
    . exact lexL_trans hpq (h'.1 x hx)
theorem sortK_srt {α : Type} {l : List (List UInt8 × α)} (h : (l.map Prod.fst).Nodup) : Srt (sortK l) := by
 induction l with
 | nil => exact List.Pairwise.nil
 | cons p r ih =>
  rw [List.map_cons, List.nodup_cons] at h
  refine ins_srt (ih h.2) (fun q hq e => h.1 ?_)
  rw [<- e]
  exact List.mem_map_of_mem ((sortK_perm r).mem_iff.1 hq)
def risesL : List (List UInt8) -> Bool
 | [] => true
 | [_] => true
 | a :: b :: r => lexL a b && risesL (b :: r)
def placeL (l : List (List UInt8)) (s : List UInt8) : Option Nat := l.idxOf? s
def look (h h' : Hd) (k' : F) (i : Nat) : Option (Hd × F) :=
 if h.kind = 6 then (placeL h'.keys (h.keys.getD i [])).bind fun j => (toL k')[j]? else (toL k')[i]?
theorem idxOf_some {α : Type} [BEq α] [LawfulBEq α] : ∀ {l : List α} {x : α}, x ∈ l -> ∃ j, l.idxOf? x = some j /\ l[j]? = some x
 | y :: l, x, h => by
  by_cases e : y = x
  . exact ⟨0, by simp [List.idxOf?, List.findIdx?_cons, e], by simp [e]⟩
  . obtain ⟨j, h1, h2⟩ := idxOf_some ((List.mem_cons.1 h).resolve_left (fun h => e h.symm))
    refine ⟨j + 1, ?_, by simpa using h2⟩
    unfold List.idxOf? at h1 ⊢
    rw [List.findIdx?_cons, show (y == x) = false by simpa using e]
    simp [h1]
end Js
end Go.Proofs.YtjohdaobhonioaaGreatDoor
namespace Go.Proofs.YtjohdaobhonioaaGreatDoor
namespace Js
theorem pu_snoc (M : Nat) : ∀ (l : List UInt8) (acc v : Nat) (c : UInt8), Lib.parseUintM M acc l = .ok v -> Lib.parseUintM M acc (l ++ [c]) = Lib.parseUintM M v [c] := by
 intro l
 induction l with
 | nil => intro acc v c h; simp only [Lib.parseUintM] at h; injection h with h; subst h; rfl
 | cons d l ih =>
  intro acc v c h
  rw [List.cons_append]
  unfold Lib.parseUintM at h
  rw [Lib.parseUintM]
  split at h
  . rename_i h1
    rw [if_pos h1]
    split at h
    . cases h
    . rename_i h2
      rw [if_neg h2]
      split at h
      . cases h
      . rename_i h3
        rw [if_neg h3]
        exact ih _ _ _ h
  . cases h
theorem pu_dec : ∀ u : Nat, u ≤ 9223372036854775808 -> Lib.parseUintM 18446744073709551615 0 (Lib.decDigits u) = .ok u := by
 intro u
 induction u using Nat.strongRecOn with
 | _ u ih =>
  intro hu
  by_cases h : u < 10
  . have t := toNat_of (show 48 + u < 256 by omega)
    rw [Lib.decDigits, dif_pos h]
    unfold Lib.parseUintM
    rw [t, if_pos (by omega), if_neg (by omega), if_neg (by omega)]
    unfold Lib.parseUintM
    congr 1; omega
  . have t := toNat_of (show 48 + u % 10 < 256 by omega)
    rw [Lib.decDigits, dif_neg h, pu_snoc _ _ _ _ _ (ih (u / 10) (by omega) (by omega))]
    unfold Lib.parseUintM
    rw [t, if_pos (by omega), if_neg (by omega), if_neg (by omega)]
    unfold Lib.parseUintM
    congr 1; omega
theorem dec_ne (n : Nat) : Lib.decDigits n ≠ [] := by
 obtain ⟨c, r, h, _⟩ := dec_first n
 rw [h]; simp
theorem parse_num {m : List UInt8} {z : Int} (h : numOf m = some z) : Lib.parseIntB 64 m = .ok z := by
 obtain ⟨h1, h2, h3⟩ := numOf_some.1 h
 subst h1
 unfold decI Lib.itoa
 by_cases hz : z < 0
 . rw [if_pos hz, Lib.parseIntB_minus]
   unfold Lib.parseUintB
   rw [if_neg (dec_ne _), show (2 ^ 64 - 1 : Nat) = 18446744073709551615 from rfl, pu_dec _ (by omega)]
   unfold Lib.signedC
   simp only
   rw [if_neg (by simp; omega)]
   congr 1; omega
 . rw [if_neg hz]
   obtain ⟨c, r, e, hc⟩ := dec_first z.toNat
   have hp := pu_dec z.toNat (by omega)
   have hn := dec_ne z.toNat
   rw [e] at hp hn ⊢
   rw [Lib.parseIntB_plain _ _ _ (by omega) (by omega)]
   unfold Lib.parseUintB
   rw [if_neg hn, show (2 ^ 64 - 1 : Nat) = 18446744073709551615 from rfl, hp]
   unfold Lib.signlessC
   simp only
   rw [if_neg (by simp; omega)]
   congr 1; omega
theorem num_parse {m : List UInt8} {z : Int} (h : Lib.parseIntB 64 m = .ok z) : numOf m = if Lib.itoa z = m then some z else none := by
 split
 . rename_i e
   have hb := Lib.parseIntB_bounds h
   simp at hb
   exact numOf_some.2 ⟨e, by omega, by omega⟩
 . rename_i e
   cases hn : numOf m with
   | none => rfl
   | some y =>
    have h2 := parse_num hn
    rw [h] at h2
    injection h2 with h2
    subst h2
    exact absurd (numOf_some.1 hn).1 e
theorem num_none {m : List UInt8} (h : ∀ z, Lib.parseIntB 64 m ≠ .ok z) : numOf m = none := by
 cases hn : numOf m with
 | none => rfl
 | some y => exact absurd (parse_num hn) (h y)
theorem get_list (l : List UInt8) (k : Nat) : (⟨l.toArray⟩ : ByteArray).get! k = l.getD k 0 := by
 simp [ByteArray.get!, List.getD]
 rfl
def ct (r : List UInt8) (k : Nat) : Bool := decide (k + 1 < r.length + 1) && (r.getD k 0).toNat / 64 == 2
theorem decL_cons (c : UInt8) (r : List UInt8) : Lib.decodeL (c :: r) =
  if c.toNat < 128 then (c.toNat, 1)
  else if (c.toNat / 32 == 6 && ct r 0) = true then (if c.toNat % 32 * 64 + (r.getD 0 0).toNat % 64 ≥ 128 then (c.toNat % 32 * 64 + (r.getD 0 0).toNat % 64, 2) else (65533, 1))
  else if (c.toNat / 16 == 14 && ct r 0 && ct r 1) = true then (if (decide (c.toNat % 16 * 4096 + (r.getD 0 0).toNat % 64 * 64 + (r.getD 1 0).toNat % 64 ≥ 2048) && Utf8.valid (c.toNat % 16 * 4096 + (r.getD 0 0).toNat % 64 * 64 + (r.getD 1 0).toNat % 64)) = true then (c.toNat % 16 * 4096 + (r.getD 0 0).toNat % 64 * 64 + (r.getD 1 0).toNat % 64, 3) else (65533, 1))
  else if (c.toNat / 8 == 30 && ct r 0 && ct r 1 && ct r 2) = true then (if (decide (c.toNat % 8 * 262144 + (r.getD 0 0).toNat % 64 * 4096 + (r.getD 1 0).toNat % 64 * 64 + (r.getD 2 0).toNat % 64 ≥ 65536) && Utf8.valid (c.toNat % 8 * 262144 + (r.getD 0 0).toNat % 64 * 4096 + (r.getD 1 0).toNat % 64 * 64 + (r.getD 2 0).toNat % 64)) = true then (c.toNat % 8 * 262144 + (r.getD 0 0).toNat % 64 * 4096 + (r.getD 1 0).toNat % 64 * 64 + (r.getD 2 0).toNat % 64, 4) else (65533, 1))
  else (65533, 1) := by
 unfold Lib.decodeL Utf8.decode
 simp only [get_list, Nat.zero_add, ct, ByteArray.size, List.size_toArray, List.length_cons, List.getD_cons_zero, List.getD_cons_succ, Utf8.runeError]
 rfl
theorem valid_iff (z : Int) : Utf8.valid z = true ↔ (0 ≤ z /\ z < 55296) ∨ (57344 ≤ z /\ z ≤ 1114111) := by
 unfold Utf8.valid
 simp only [Bool.or_eq_true, Bool.and_eq_true, decide_eq_true_eq]
theorem ct_cons (x : UInt8) (r : List UInt8) : ct (x :: r) 0 = cont x := by
 unfold ct cont
 rw [Bool.eq_iff_iff]
 simp
 have := x.toNat_lt
 omega
theorem ct_cons2 (x y : UInt8) (r : List UInt8) : ct (x :: y :: r) 1 = cont y := by
 unfold ct cont
 rw [Bool.eq_iff_iff]
 simp
 have := y.toNat_lt
 omega
theorem ct_cons3 (x y z : UInt8) (r : List UInt8) : ct (x :: y :: z :: r) 2 = cont z := by
 unfold ct cont
 rw [Bool.eq_iff_iff]
 simp
 have := z.toNat_lt
 omega
theorem cont_iff (x : UInt8) : cont x = true ↔ 128 ≤ x.toNat /\ x.toNat ≤ 191 := by unfold cont; simp
theorem ct_nil (k : Nat) : ct [] k = false := by unfold ct; simp
theorem ct_one (x : UInt8) (k : Nat) : ct [x] (k + 1) = false := by unfold ct; simp
theorem ct_two (x y : UInt8) (k : Nat) : ct [x, y] (k + 2) = false := by unfold ct; simp
theorem pfx_bom {c x y : UInt8} {t : List UInt8} (h1 : c.toNat = 239) (h2 : x.toNat = 191) (h3 : y.toNat = 189) : [239, 191, 189].isPrefixOf (c :: x :: y :: t) = true := by
 have e1 : c = 239 := UInt8.toNat_inj.1 h1
 have e2 : x = 191 := UInt8.toNat_inj.1 h2
 have e3 : y = 189 := UInt8.toNat_inj.1 h3
 subst e1 e2 e3
 simp [List.isPrefixOf]
def DecOf (s : List UInt8) (n : Nat) (p : Nat × Nat) : Prop := (n = 0 /\ p = (65533, 1)) ∨ (n ≠ 0 /\ p.2 = n /\ (p.1 = 65533 -> [239, 191, 189].isPrefixOf s = true))
set_option maxHeartbeats 1000000 in
theorem dec_of (c : UInt8) (r : List UInt8) : DecOf (c :: r) (char (c :: r)) (Lib.decodeL (c :: r)) := by
 have hc := c.toNat_lt
 rw [decL_cons]
 rcases r with _ | ⟨x, _ | ⟨y, _ | ⟨z, t⟩⟩⟩
 . simp only [ct_nil, Bool.and_false, Bool.false_eq_true, if_false, char]
   unfold DecOf
   repeat' split
   all_goals first
    | exact .inl ⟨rfl, rfl⟩
    | exact .inr ⟨by decide, rfl, fun h => by simp only at h; omega⟩
    | (exfalso; omega)
 . have hx := x.toNat_lt
   simp only [ct_cons, show ct [x] 1 = false from ct_one x 0, show ct [x] 2 = false from ct_one x 1, Bool.and_false, Bool.false_eq_true, if_false, char, Bool.and_eq_true, beq_iff_eq, cont_iff, List.getD_cons_zero]
   unfold DecOf
   repeat' split
   all_goals first
    | exact .inl ⟨rfl, rfl⟩
    | exact .inr ⟨by decide, rfl, fun h => by simp only at h; omega⟩
    | (exfalso; omega)
 . have hx := x.toNat_lt
   have hy := y.toNat_lt
   simp only [ct_cons, ct_cons2, show ct [x, y] 2 = false from ct_two x y 0, Bool.and_false, Bool.false_eq_true, if_false, char, Bool.and_eq_true, beq_iff_eq, cont_iff, valid_iff, decide_eq_true_eq, List.getD_cons_zero, List.getD_cons_succ]
   unfold DecOf
   repeat' split
   all_goals first
    | exact .inl ⟨rfl, rfl⟩
    | exact .inr ⟨by decide, rfl, fun h => by simp only at h; omega⟩
    | exact .inr ⟨by decide, rfl, fun h => by simp only at h; exact pfx_bom (by omega) (by omega) (by omega)⟩
    | (exfalso; omega)
 . have hx := x.toNat_lt
   have hy := y.toNat_lt
   have hz := z.toNat_lt
   simp only [ct_cons, ct_cons2, ct_cons3, char, Bool.and_eq_true, beq_iff_eq, cont_iff, valid_iff, decide_eq_true_eq, List.getD_cons_zero, List.getD_cons_succ]
   unfold DecOf
   repeat' split
   all_goals first
    | exact .inl ⟨rfl, rfl⟩
    | exact .inr ⟨by decide, rfl, fun h => by simp only at h; omega⟩
    | exact .inr ⟨by decide, rfl, fun h => by simp only at h; exact pfx_bom (by omega) (by omega) (by omega)⟩
    | (exfalso; omega)
end Js
end Go.Proofs.YtjohdaobhonioaaGreatDoor
namespace Go.Proofs.YtjohdaobhonioaaGreatDoor
namespace Js
def trimH (h : Hd) : Hd := if h.kind = 3 then ⟨3, h.num, [], []⟩ else if h.kind = 4 then ⟨4, 0, h.text, []⟩ else if h.kind = 6 then ⟨6, 0, [], h.keys⟩ else plainH h.kind
def trim : F -> F
 | .nil => .nil
 | .cons h k r => .cons (trimH h) (if h.kind = 5 ∨ h.kind = 6 then trim k else .nil) (trim r)
def trimK (h : Hd) (k : F) : F := if h.kind = 5 ∨ h.kind = 6 then trim k else .nil
theorem trim_cons (h : Hd) (k r : F) : trim (.cons h k r) = .cons (trimH h) (trimK h k) (trim r) := rfl
theorem trimH_kind (h : Hd) : (trimH h).kind = h.kind := by
 unfold trimH
 split
 . rename_i e; exact e.symm
 split
 . rename_i e; exact e.symm
 split
 . rename_i e; exact e.symm
 . rfl
theorem trim_len (f : F) : (trim f).len = f.len := by induction f <;> simp_all [trim, F.len]
theorem trim_app (f g : F) : trim (f.app g) = (trim f).app (trim g) := by induction f <;> simp_all [trim, F.app]
theorem formH_trim (h : Hd) (fs : List (List UInt8)) (h0 : 0 ≤ h.kind) (h6 : h.kind ≤ 6) : formH (trimH h) (if h.kind = 5 ∨ h.kind = 6 then fs else []) = formH h fs := by
 obtain ⟨kd, num, text, keys⟩ := h
 simp only at h0 h6
 have hk : kd = 0 ∨ kd = 1 ∨ kd = 2 ∨ kd = 3 ∨ kd = 4 ∨ kd = 5 ∨ kd = 6 := by omega
 rcases hk with rfl | rfl | rfl | rfl | rfl | rfl | rfl <;> simp [trimH, formH, plainH]
theorem forms_trim : ∀ (f : F) (d : Nat), wrongsF d f = 0 -> forms (trim f) = forms f := by
 intro f
 induction f with
 | nil => intro d _; rfl
 | cons h k r ih1 ih2 =>
  intro d hw
  obtain ⟨h1, h2⟩ := wrongsF_zero hw
  obtain ⟨h3, h4⟩ := wrongs_zero h1
  obtain ⟨_, hk0, hk6, _⟩ := own_zero h3
  rw [trim, forms, forms, ih2 d h2, <- formH_trim h (forms k) hk0 hk6]
  congr 2
  split
  . rename_i h5; rw [ih1 _ (h4 (by omega))]
  . rfl
theorem form_trim {d : Nat} {h : Hd} {k : F} (hw : wrongs d h k = 0) : form (trimH h) (trimK h k) = form h k := by
 obtain ⟨h3, h4⟩ := wrongs_zero hw
 obtain ⟨_, hk0, hk6, _⟩ := own_zero h3
 unfold form trimK
 rw [<- formH_trim h (forms k) hk0 hk6]
 congr 1
 split
 . rename_i h5; rw [forms_trim _ _ (h4 (by omega))]
 . rfl
theorem atom_trim {s : List UInt8} {h : Hd} {k : F} {r : List UInt8} (hx : atom s = some (.ok h k r)) : trimH h = h /\ k = .nil /\ h.kind < 5 := by
 unfold atom at hx
 repeat' split at hx
 all_goals simp only [Option.some.injEq, Out.ok.injEq, reduceCtorEq, TO.out, numOut] at hx
 all_goals first
  | (obtain ⟨rfl, rfl, rfl⟩ := hx; exact ⟨rfl, rfl, by decide⟩)
  | (split at hx <;> simp only [Out.ok.injEq, reduceCtorEq] at hx; obtain ⟨rfl, rfl, rfl⟩ := hx; exact ⟨rfl, rfl, by simp⟩)
def Trd : Kd -> Hd -> F -> Prop
 | .val, h, f => trimH h = h /\ trimK h f = f
 | .items, h, f => h = plainH 5 /\ trim f = f
 | .mems _, h, f => (∃ ks, h = ⟨6, 0, [], ks⟩ /\ ks.length = f.len) /\ trim f = f
theorem rd_trim : ∀ (n : Nat) (kd : Kd) (d : Nat) (s : List UInt8) (h : Hd) (f : F) (r : List UInt8), rd n kd d s = .ok h f r -> Trd kd h f := by
 intro n
 induction n with
 | zero => intro kd d s h f r hx; simp [rd] at hx
 | succ n ih =>
  intro kd d s h f r hx
  have hc : ∀ {h : Hd} {k r : F}, trimH h = h -> trimK h k = k -> trim r = r -> trim (.cons h k r) = .cons h k r := fun h1 h2 h3 => by rw [trim_cons, h1, h2, h3]
  cases kd with
  | val =>
   unfold rd at hx
   split at hx
   . cases hx
   . split at hx
     . cases hx
     . split at hx
       . rename_i o ho
         subst hx
         obtain ⟨h1, rfl, h3⟩ := atom_trim ho
         exact ⟨h1, by unfold trimK; rw [if_neg (by omega)]⟩
       . split at hx
         . split at hx
           . injection hx with h1 h2 _; subst h1 h2
             exact ⟨rfl, rfl⟩
           . obtain ⟨rfl, h2⟩ := ih _ _ _ _ _ _ hx
             exact ⟨rfl, by unfold trimK; rw [if_pos (.inl rfl)]; exact h2⟩
         . split at hx
           . injection hx with h1 h2 _; subst h1 h2
             exact ⟨rfl, rfl⟩
           . obtain ⟨⟨ks, rfl, _⟩, h2⟩ := ih _ _ _ _ _ _ hx
             exact ⟨rfl, by unfold trimK; rw [if_pos (.inr rfl)]; exact h2⟩
  | items =>
   unfold rd at hx
   split at hx
   . cases hx
   . rename_i h1 k1 r1 he
     obtain ⟨a1, a2⟩ := ih _ _ _ _ _ _ he
     split at hx
     . cases hx
     . injection hx with e1 e2 _; subst e1 e2
       exact ⟨rfl, hc a1 a2 rfl⟩
     . cases hr : rd n .items d _ with
       | err no q2 => rw [hr] at hx; cases hx
       | ok h4 k4 r4 =>
         rw [hr] at hx
         injection hx with e1 e2 _; subst e1 e2
         obtain ⟨rfl, h6⟩ := ih _ _ _ _ _ _ hr
         exact ⟨rfl, hc a1 a2 h6⟩
  | mems ks =>
   unfold rd at hx
   split at hx
   . cases hx
   . split at hx
     . cases hx
     . rename_i h1 k1 r1 he
       obtain ⟨a1, a2⟩ := ih _ _ _ _ _ _ he
       split at hx
       . cases hx
       . injection hx with e1 e2 _; subst e1 e2
         exact ⟨⟨_, rfl, rfl⟩, hc a1 a2 rfl⟩
       . cases hr : rd n (.mems _) d _ with
         | err no q2 => rw [hr] at hx; cases hx
         | ok h4 k4 r4 =>
           rw [hr] at hx
           injection hx with e1 e2 _; subst e1 e2
           obtain ⟨⟨ks, rfl, hl⟩, h6⟩ := ih _ _ _ _ _ _ hr
           exact ⟨⟨_, rfl, by simp [F.len, hl]⟩, hc a1 a2 h6⟩
theorem val_trim {d : Nat} {s : List UInt8} {h : Hd} {f : F} {r : List UInt8} (hx : val d s = .ok h f r) : trimH h = h /\ trimK h f = f := rd_trim _ _ _ _ _ _ _ hx
theorem parse_ok {s r : List UInt8} {h : Hd} {k : F} (hx : parse s = .ok h k r) : s.length ≤ 4194304 /\ wrong s = none /\ r = [] /\ ∃ q, val 1 s = .ok h k q /\ bl q = [] := by
 unfold parse at hx
 split at hx
 . cases hx
 . split at hx
   . cases hx
   . rename_i hw
     split at hx
     . cases hx
     . rename_i hv
       split at hx
       . rename_i hb
         injection hx with h1 h2 h3; subst h1 h2 h3
         exact ⟨by omega, hw, rfl, _, hv, hb⟩
       . cases hx
theorem parse_of {s q : List UInt8} {h : Hd} {k : F} (hl : s.length ≤ 4194304) (hw : wrong s = none) (hv : val 1 s = .ok h k q) (hb : bl q = []) : parse s = .ok h k [] := by
 unfold parse
 rw [if_neg (by omega), hw]
 simp only
 rw [hv]
 simp only
 rw [hb]
theorem wrong_cat {a b : List UInt8} (ha : wrong a = none) (hb : wrong b = none) : wrong (a ++ b) = none := by rw [wrong_app ha]; exact hb
theorem wrong_low {a : List UInt8} (ha : ∀ c ∈ a, c.toNat < 128) : wrong a = none := by have := wrong_asciis a [] ha; rwa [List.append_nil] at this
theorem wrong_one {c : UInt8} (h : c.toNat < 128) {s : List UInt8} (hs : wrong s = none) : wrong (c :: s) = none := by rw [wrong_ascii h]; exact hs
theorem wrong_commas : ∀ {l : List (List UInt8)}, (∀ y ∈ l, wrong y = none) -> wrong (commas l) = none
 | [], _ => rfl
 | [x], h => h x (by simp)
 | x :: y :: r, h => wrong_cat (h x (by simp)) (wrong_one (by decide) (wrong_commas fun z hz => h z (List.mem_cons_of_mem _ hz)))
theorem decI_low (z : Int) : ∀ c ∈ decI z, c.toNat < 128 := fun c hc => numc_ascii (decI_numc z c hc)
theorem wrong_formH {d n : Nat} {h : Hd} {fs : List (List UInt8)} (h0 : own d h n = 0) (hf : 5 ≤ h.kind -> ∀ y ∈ fs, wrong y = none) : wrong (formH h fs) = none := by
 obtain ⟨_, hk0, hk6, _, ht, hk⟩ := own_zero h0
 unfold formH
 split
 . rfl
 split
 . rfl
 split
 . rfl
 split
 . exact wrong_low (decI_low _)
 split
 . rename_i e; exact wrong_quoted (ht e)
 split
 . rename_i e
   exact wrong_one (by decide) (wrong_cat (wrong_commas (hf (by omega))) rfl)
 . refine wrong_one (by decide) (wrong_cat (wrong_commas fun y hy => ?_) rfl)
   obtain ⟨p, hp, rfl⟩ := List.mem_map.1 hy
   have hm := (sortK_perm _).mem_iff.1 hp
   obtain ⟨h1, h2⟩ := List.of_mem_zip (show (p.1, p.2) ∈ _ from hm)
   exact wrong_cat (wrong_quoted ((hk (by omega)).1 _ h1)) (wrong_one (by decide) (hf (by omega) _ h2))
theorem wrong_forms : ∀ (f : F) (d : Nat), wrongsF d f = 0 -> ∀ y ∈ forms f, wrong y = none := by
 intro f
 induction f with
 | nil => intro d _ y hy; simp [forms] at hy
 | cons h k r ih1 ih2 =>
  intro d hw y hy
  obtain ⟨h1, h2⟩ := wrongsF_zero hw
  obtain ⟨h3, h4⟩ := wrongs_zero h1
  simp only [forms, List.mem_cons] at hy
  rcases hy with rfl | hy
  . exact wrong_formH h3 fun h5 => ih1 _ (h4 h5)
  . exact ih2 d h2 y hy
theorem wrong_form {d : Nat} {h : Hd} {k : F} (hw : wrongs d h k = 0) : wrong (form h k) = none := by
 obtain ⟨h3, h4⟩ := wrongs_zero hw
 exact wrong_formH h3 fun h5 => wrong_forms _ _ (h4 h5)
theorem parse_form {h : Hd} {k : F} (hw : wrongs 1 h k = 0) (hh : NumOk h) (hn : k.All NumOk) (hl : (form h k).length ≤ 4194304) : parse (form h k) = .ok (norm h k).1 (norm h k).2 [] := by
 have h1 := (form_rds hw hh hn).2 [] (fun _ => by trivial)
 rw [List.append_nil] at h1
 exact parse_of hl (wrong_form hw) h1 rfl
end Js
end Go.Proofs.YtjohdaobhonioaaGreatDoor
namespace Go.Proofs.YtjohdaobhonioaaGreatDoor
namespace Js
theorem valid_wrong : ∀ (n : Nat) (s : List UInt8), s.length ≤ n -> Lib.validD s = decide (wrong s = none) := by
 intro n
 induction n with
 | zero =>
  intro s h
  obtain rfl := List.length_eq_zero_iff.1 (Nat.le_zero.1 h)
  rfl
 | succ n ih =>
  intro s h
  cases s with
  | nil => rfl
  | cons c r =>
   simp only [List.length_cons] at h
   rw [Lib.validD_step _ (by simp), wrong_eq]
   rcases dec_of c r with ⟨h0, hp⟩ | ⟨h0, h2, h3⟩
   . rw [hp, h0]
     simp
   . rw [if_neg h0, h2]
     have hne : ¬ ((Lib.decodeL (c :: r)).1 = 65533 /\ char (c :: r) = 1) := by
      rintro ⟨h4, h5⟩
      have hp := h3 h4
      match r, hp with
      | x :: y :: t, hp =>
       simp only [List.isPrefixOf, Bool.and_eq_true, beq_iff_eq, Bool.and_true] at hp
       obtain ⟨rfl, rfl, rfl⟩ := hp
       simp [char, cont] at h5
      | [x], hp => simp [List.isPrefixOf] at hp
      | [], hp => simp [List.isPrefixOf] at hp
     rw [if_neg hne]
     exact ih _ (by rw [List.length_drop, List.length_cons]; omega)
theorem valid_is (s : List UInt8) : Lib.validD s = decide (wrong s = none) := valid_wrong _ s (Nat.le_refl _)
theorem all_bytes {p : UInt8 -> Bool} (h : ∀ n : Fin 256, p (.ofNat n.val) = true) (c : UInt8) : p c = true := by
 have := h ⟨c.toNat, c.toNat_lt⟩
 simpa using this
theorem blank_idx (c : UInt8) : decide (0 ≤ Lib.indexByte [32, 9, 10, 13] c) = blank c := by
 have := all_bytes (p := fun c => decide (0 ≤ Lib.indexByte [32, 9, 10, 13] c) == blank c) (by decide +kernel) c
 simpa using this
theorem num_idx (c : UInt8) : decide (0 ≤ Lib.indexByte [48, 49, 50, 51, 52, 53, 54, 55, 56, 57, 45, 43, 46, 101, 69] c) = numc c := by
 have := all_bytes (p := fun c => decide (0 ≤ Lib.indexByte [48, 49, 50, 51, 52, 53, 54, 55, 56, 57, 45, 43, 46, 101, 69] c) == numc c) (by decide +kernel) c
 simpa using this
def hexL : List UInt8 := [48, 49, 50, 51, 52, 53, 54, 55, 56, 57, 97, 98, 99, 100, 101, 102]
def hexI (c : UInt8) : Int := Lib.indexByte hexL (c ||| 32)
theorem hex_idx (c : UInt8) : (hexd c = none ↔ (hexI c < 0 ∨ c.toNat < 48)) /\ ∀ d, hexd c = some d -> hexI c = d := by
 have := all_bytes (p := fun c => match hexd c with
  | none => decide (hexI c < 0 ∨ c.toNat < 48)
  | some d => decide (hexI c = d) && decide (¬ (hexI c < 0 ∨ c.toNat < 48))) (by decide +kernel) c
 cases hd : hexd c with
 | none => rw [hd] at this; simp only [decide_eq_true_eq] at this; exact ⟨⟨fun _ => this, fun _ => rfl⟩, fun d h => by cases h⟩
 | some d => rw [hd] at this; simp only [Bool.and_eq_true, decide_eq_true_eq] at this; exact ⟨⟨(by intro h; cases h), fun h => absurd h this.2⟩, fun d' h => by injection h with h; subst h; exact this.1⟩
def escF : List UInt8 := [34, 92, 47, 98, 102, 110, 114, 116]
def escT : List UInt8 := [34, 92, 47, 8, 12, 10, 13, 9]
theorem esc_idx (c : UInt8) : (simple c = none -> Lib.indexByte escF c = -1) /\ ∀ b, simple c = some b -> ∃ i : Nat, Lib.indexByte escF c = i /\ i < 8 /\ (escT.drop i).take 1 = [b] := by
 have := all_bytes (p := fun c => match simple c with
  | none => decide (Lib.indexByte escF c = -1)
  | some b => decide (0 ≤ Lib.indexByte escF c /\ Lib.indexByte escF c < 8 /\ (escT.drop (Lib.indexByte escF c).toNat).take 1 = [b])) (by decide +kernel) c
 cases hs : simple c with
 | none => rw [hs] at this; exact ⟨fun _ => by simpa using this, fun b h => by cases h⟩
 | some b =>
  rw [hs] at this
  obtain ⟨h1, h2, h3⟩ := of_decide_eq_true this
  exact ⟨(by intro h; cases h), fun b' h => by injection h with h; subst h; exact ⟨(Lib.indexByte escF c).toNat, by omega, by omega, h3⟩⟩
theorem encode_utf8 {v : Nat} (h : v < 1114112) (hs : v < 55296 ∨ 57343 < v) : Utf8.encode (v : Int) = ⟨(utf8 v).toArray⟩ := by
 have hv : Utf8.valid (v : Int) = true := by rw [valid_iff]; omega
 unfold Utf8.encode utf8
 simp only [hv, if_true, Int.toNat_natCast]
 split
 . rfl
 . split
   . rfl
   . split
     . rfl
     . rfl
end Js
end Go.Proofs.YtjohdaobhonioaaGreatDoor
namespace Go.Proofs.YtjohdaobhonioaaGreatDoor
namespace Js
theorem lexL_lt : ∀ a b : List UInt8, lexL a b = true ↔ a < b
 | [], [] => by simp [lexL]
 | _ :: _, [] => by simp [lexL]
 | [], _ :: _ => by simp [lexL]
 | a :: s, b :: t => by
  have ih := lexL_lt s t
  rw [List.cons_lt_cons_iff, <- ih, UInt8.lt_iff_toNat_lt]
  simp only [lexL, Bool.or_eq_true, decide_eq_true_eq, Bool.and_eq_true, beq_iff_eq, UInt8.toNat_inj]
theorem lexL_le {a b : List UInt8} (h : lexL a b = true) : a ≤ b := List.le_of_lt ((lexL_lt a b).1 h)
theorem sort_keys {α : Type} {ks ss : List (List UInt8)} {fs : List α} (hn : ks.Nodup) (hl : ks.length = fs.length) (hp : ss.Perm ks) : ss.mergeSort (fun x y => decide (x ≤ y)) = (sortK (ks.zip fs)).map Prod.fst := by
 have hz : ((ks.zip fs).map Prod.fst) = ks := map_fst_zip ks fs hl
 have tr : ∀ a b c : List UInt8, decide (a ≤ b) = true -> decide (b ≤ c) = true -> decide (a ≤ c) = true := fun a b c h1 h2 => by simp only [decide_eq_true_eq] at *; exact List.le_trans h1 h2
 have to : ∀ a b : List UInt8, (decide (a ≤ b) || decide (b ≤ a)) = true := fun a b => by simp only [Bool.or_eq_true, decide_eq_true_eq]; exact List.le_total a b
 refine List.Perm.eq_of_pairwise (le := fun a b => decide (a ≤ b) = true) (fun a b _ _ h1 h2 => ?_) (List.pairwise_mergeSort tr to ss) ?_ ?_
 . simp only [decide_eq_true_eq] at h1 h2
   exact List.le_antisymm h1 h2
 . have hs : Srt (sortK (ks.zip fs)) := sortK_srt (by rw [hz]; exact hn)
   refine List.pairwise_map.2 (hs.imp fun {p q} h => ?_)
   simp only [decide_eq_true_eq]
   exact lexL_le h
 . have h1 : ((sortK (ks.zip fs)).map Prod.fst).Perm ks := by
    have := (sortK_perm (ks.zip fs)).map Prod.fst
    rwa [hz] at this
   exact (List.mergeSort_perm ss _).trans (hp.trans h1.symm)
theorem sortK_at {α : Type} {ks : List (List UInt8)} {fs : List α} {i : Nat} {x : List UInt8} {y : α} (h : (sortK (ks.zip fs))[i]? = some (x, y)) : ∃ j, ks[j]? = some x /\ fs[j]? = some y /\ j < ks.length := by
 have hm : (x, y) ∈ ks.zip fs := (sortK_perm _).mem_iff.1 (List.mem_of_getElem? h)
 obtain ⟨j, hj⟩ := List.getElem?_of_mem hm
 have h1 := hj
 rw [List.getElem?_zip_eq_some] at h1
 obtain ⟨h1, h2⟩ := h1
 refine ⟨j, h1, h2, ?_⟩
 rcases Nat.lt_or_ge j ks.length with h3 | h3
 . exact h3
 . rw [List.getElem?_eq_none h3] at h1; cases h1
theorem commas_snoc : ∀ (l : List (List UInt8)) (x : List UInt8), commas (l ++ [x]) = if l = [] then x else commas l ++ 44 :: x
 | [], x => rfl
 | [y], x => rfl
 | y :: z :: r, x => by
  have ih := commas_snoc (z :: r) x
  rw [if_neg (by simp)] at ih ⊢
  show y ++ 44 :: commas (z :: r ++ [x]) = _
  rw [ih]
  show _ = (y ++ 44 :: commas (z :: r)) ++ 44 :: x
  simp
theorem commas_take {l : List (List UInt8)} {i : Nat} {x : List UInt8} (h : l[i]? = some x) : commas (l.take (i + 1)) = if i = 0 then x else commas (l.take i) ++ 44 :: x := by
 rw [List.take_add_one, h]
 show commas (l.take i ++ [x]) = _
 rw [commas_snoc]
 have hi : i < l.length := by
   rcases Nat.lt_or_ge i l.length with h3 | h3
   . exact h3
   . rw [List.getElem?_eq_none h3] at h; cases h
 by_cases h0 : i = 0
 . subst h0; simp
 . rw [if_neg h0, if_neg]
   intro e
   have := congrArg List.length e
   rw [List.length_take, List.length_nil] at this
   omega
end Js
end Go.Proofs.YtjohdaobhonioaaGreatDoor
namespace Go.Proofs.YtjohdaobhonioaaGreatDoor
namespace Js
def sgn (s : List UInt8) : Nat := if s.getD 0 0 = 45 then 1 else 0
def digs (s : List UInt8) : List UInt8 := (s.take 25).drop (sgn s)
theorem dec_len {n : Nat} (h : n < 100000000000000000000) : (Lib.decDigits n).length ≤ 20 := by
 rw [Lib.decDigits_length]
 have g : ∀ (k m : Nat), m < 10 ^ (k + 1) -> Lib.nDigits m ≤ k + 1 := by
  intro k
  induction k with
  | zero => intro m hm; rw [Lib.nDigits_small (by simpa using hm)]; omega
  | succ k ih =>
   intro m hm
   by_cases h10 : m < 10
   . rw [Lib.nDigits_small h10]; omega
   . rw [Lib.nDigits_big h10]
     have := ih (m / 10) (by rw [Nat.pow_succ] at hm; omega)
     omega
 exact g 19 n (by simpa using h)
end Js
end Go.Proofs.YtjohdaobhonioaaGreatDoor
namespace Go.Proofs.YtjohdaobhonioaaGreatDoor
namespace Js
theorem parse_good {s r : List UInt8} {h : Hd} {k : F} (hx : parse s = .ok h k r) : s.length ≤ 4194304 /\ r = [] /\ wrongs 1 h k = 0 /\ NumOk h /\ k.All NumOk /\ (form h k).length ≤ 6 * s.length := by
 obtain ⟨h1, h2, h3, q, h4, h5⟩ := parse_ok hx
 obtain ⟨_, g2, g3, g4, g5⟩ := val_good h4 h2
 exact ⟨h1, h3, g2, g3, g4, by omega⟩
end Js
end Go.Proofs.YtjohdaobhonioaaGreatDoor
