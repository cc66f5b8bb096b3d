/-
  Joined: PcsP, PcsW.
-/
import Derived.Test.YtgjelinnpcekmaaGreatDoorMem
import Derived.Test.YtgjelinnpcekmaaGreatDoorKit
import Derived.Test.YtgjelinnpcekmaaGreatDoorProg
import Derived.BigQuiet
import Derived.Deep.QuietTactic
import Derived.Lib.ItoaNum
namespace Go.Proofs.YtgjelinnpcekmaaGreatDoor
open Go.RowKit

/-- A list of texts, as cells. -/
def tx (l : List (List UInt8)) : List Value := l.map fun p => .string ⟨p.toArray⟩
theorem tx_length (l : List (List UInt8)) : (tx l).length = l.length := by simp [tx]
theorem tx_append (l m : List (List UInt8)) : tx (l ++ m) = tx l ++ tx m := by simp [tx]
theorem tx_get {l : List (List UInt8)} {k : Nat} {u : Value} (h : (tx l)[k]? = some u) (hk : k < l.length) : u = .string ⟨(l.getD k []).toArray⟩ := by
  simp only [tx, List.getElem?_map, List.getElem?_eq_getElem hk, Option.map_some, Option.some.injEq] at h
  rw [← h]; simp [List.getD, List.getElem?_eq_getElem hk]
def total (l : List (List UInt8)) : Nat := (l.map List.length).sum
theorem total_append (l m : List (List UInt8)) : total (l ++ m) = total l + total m := by simp [total]
theorem total_take_succ (l : List (List UInt8)) (k : Nat) (h : k < l.length) : total (l.take (k + 1)) = total (l.take k) + (l.getD k []).length := by
  rw [List.take_succ_eq_append_getElem h, total_append]
  simp [total, List.getD, List.getElem?_eq_getElem h]
theorem total_take_le (l : List (List UInt8)) (k : Nat) : total (l.take k) ≤ total l := by
  have h := total_append (l.take k) (l.drop k)
  rw [List.take_append_drop] at h
  omega

set_option maxHeartbeats 400000 in
/-- few: at most 2^20 bytes? -/
theorem few_any (A : Option Addr) (n c B : Nat) (l : List (List UInt8)) (w : World) (hr : Reads w B 1 A n (tx l)) (hn : n ≤ 140737488355328) (hs : ∀ p ∈ l, p.length ≤ 140737488355328) :
    Calls Tryz.prog 32 #[.slice A n c] w fun e w' => e = .returned (.bool (decide (total l ≤ 1048576))) ∧ w = w' := by
  have hl : l.length = n := by have := hr.1; rw [tx_length] at this; omega
  have HL := Lib.hid hl
  have HR := Lib.hid hr
  clear hl hr
  go_enter Tryz.func32, Tryz.ntmps32
  go_wp2
  go_loop [3, 4] (fun a i => ∃ k t : Nat, k ≤ n ∧ i = .int .i64 k ∧ a = .int .i64 t ∧ t ≤ 1048576 ∧ Hid (t = total (l.take k))) (fun _ i => n - (intOf i).toNat)
  case atStart => exact ⟨0, 0, by omega, rfl, rfl, by omega, Lib.hid rfl⟩
  case round =>
    obtain ⟨k, t, hk, rfl, rfl, ht, HT⟩ := hrel
    by_cases hlt : k < n
    · obtain ⟨ad, u, rfl, _, hu, hc⟩ := HR.out.at_ hlt
      obtain rfl := tx_get hu (by have := HL.out; omega)
      have hp : (l.getD k []).length ≤ 140737488355328 := hs _ (by
        have := HL.out
        simp only [List.getD, List.getElem?_eq_getElem (show k < l.length by omega), Option.getD_some]; exact List.getElem_mem _)
      have HX : Hid (total (l.take (k + 1)) = total (l.take k) + (l.getD k []).length) := Lib.hid (total_take_succ l k (by have := HL.out; omega))
      clear hu
      generalize l.getD k [] = p at hc hp HX
      by_cases hbig : 1048576 < t + p.length
      · have HF : Hid (decide (total l ≤ 1048576) = false) := Lib.hid (by
          rw [decide_eq_false_iff_not]
          have h1 := HX.out; have h2 := HT.out; have h3 := total_take_le l (k + 1)
          omega)
        go_wp2
        go_ret
        exact ⟨by rw [HF.out]; rfl, rfl⟩
      · go_wp2
        go_round
        case rel => exact ⟨k + 1, t + p.length, by omega, by go_num, by go_num, by omega, Lib.hid (by rw [HX.out, ← HT.out])⟩
        case measure => simp [intOf]; omega
    · have HF : Hid (decide (total l ≤ 1048576) = true) := Lib.hid (by
        rw [decide_eq_true_iff]
        have h1 := HT.out; rw [List.take_of_length_le (by have := HL.out; omega)] at h1
        omega)
      go_wp2
      go_ret
      exact ⟨by rw [HF.out]; rfl, rfl⟩
end Go.Proofs.YtgjelinnpcekmaaGreatDoor
namespace Go.Proofs.YtgjelinnpcekmaaGreatDoor
namespace Plain

def dec (n : Nat) : List UInt8 := Lib.decDigits n
def isD (c : UInt8) : Bool := decide (48 ≤ c.toNat ∧ c.toNat ≤ 57)
def decVal (l : List UInt8) : Nat := l.foldl (fun n c => 10 * n + (c.toNat - 48)) 0

theorem snoc_ind {α : Type} {P : List α → Prop} (nil : P []) (snoc : ∀ l c, P l → P (l ++ [c])) (l : List α) : P l := by
  have key : ∀ m : List α, P m.reverse := by
    intro m
    induction m with
    | nil => exact nil
    | cons c m ih => rw [List.reverse_cons]; exact snoc _ _ ih
  have h := key l.reverse
  rwa [List.reverse_reverse] at h
theorem decVal_snoc (l : List UInt8) (c : UInt8) : decVal (l ++ [c]) = 10 * decVal l + (c.toNat - 48) := by simp [decVal]
theorem isD_iff (c : UInt8) : isD c = true ↔ 48 ≤ c.toNat ∧ c.toNat ≤ 57 := by simp [isD]
theorem dec_small {n : Nat} (h : n < 10) : dec n = [UInt8.ofNat (48 + n)] := by unfold dec; rw [Lib.decDigits, dif_pos h]
theorem dec_big {n : Nat} (h : ¬ n < 10) : dec n = dec (n / 10) ++ [UInt8.ofNat (48 + n % 10)] := by unfold dec; rw [Lib.decDigits, dif_neg h]
theorem toNat_digit (d : Nat) (h : d < 10) : (UInt8.ofNat (48 + d)).toNat = 48 + d := by rw [UInt8.toNat_ofNat']; omega
theorem dec_ne_nil (n : Nat) : dec n ≠ [] := by
  by_cases h : n < 10
  · rw [dec_small h]; simp
  · rw [dec_big h]; simp
theorem dec_len (k : Nat) : ∀ n, n < 10 ^ (k + 1) → (dec n).length ≤ k + 1 := by
  induction k with
  | zero => intro n h; rw [dec_small (by simpa using h)]; simp
  | succ k ih =>
    intro n h
    by_cases hn : n < 10
    · rw [dec_small hn]; simp
    · rw [dec_big hn, List.length_append, List.length_cons, List.length_nil]
      have := ih (n / 10) (by rw [Nat.pow_succ] at h; omega)
      omega
theorem decVal_dec (n : Nat) : decVal (dec n) = n := by
  induction n using Nat.strongRecOn with
  | _ n ih =>
    by_cases h : n < 10
    · rw [dec_small h]
      simp only [decVal, List.foldl_cons, List.foldl_nil, toNat_digit n h]
      omega
    · rw [dec_big h, decVal_snoc, ih (n / 10) (by omega), toNat_digit _ (by omega)]
      omega
theorem dec_digits (n : Nat) : ∀ c ∈ dec n, isD c = true := by
  induction n using Nat.strongRecOn with
  | _ n ih =>
    by_cases h : n < 10
    · rw [dec_small h]
      intro c hc
      simp only [List.mem_singleton] at hc
      subst hc
      rw [isD_iff, toNat_digit n h]; omega
    · rw [dec_big h]
      intro c hc
      rw [List.mem_append] at hc
      rcases hc with hc | hc
      · exact ih (n / 10) (by omega) c hc
      · simp only [List.mem_singleton] at hc
        subst hc
        rw [isD_iff, toNat_digit _ (by omega)]; omega
theorem dec_head (n : Nat) : (dec n).getD 0 0 = 48 → (dec n).length = 1 := by
  induction n using Nat.strongRecOn with
  | _ n ih =>
    by_cases h : n < 10
    · rw [dec_small h]; intro _; rfl
    · rw [dec_big h]
      intro h0
      exfalso
      have hne := dec_ne_nil (n / 10)
      have hg : (dec (n / 10) ++ [UInt8.ofNat (48 + n % 10)]).getD 0 0 = (dec (n / 10)).getD 0 0 := by
        cases hd : dec (n / 10) with
        | nil => exact absurd hd hne
        | cons a r => simp
      rw [hg] at h0
      have hl := ih (n / 10) (by omega) h0
      by_cases h2 : n / 10 < 10
      · rw [dec_small h2] at h0
        simp only [List.getD_cons_zero] at h0
        have := congrArg UInt8.toNat h0
        rw [toNat_digit _ h2] at this
        simp at this
        omega
      · rw [dec_big h2] at hl
        have hne2 := dec_ne_nil (n / 10 / 10)
        simp only [List.length_append, List.length_cons, List.length_nil] at hl
        exact hne2 (List.length_eq_zero_iff.1 (by omega))
theorem decVal_pos (l : List UInt8) : ∀ c, isD c = true → c ≠ 48 → 1 ≤ decVal (c :: l) := by
  induction l using snoc_ind with
  | nil =>
    intro c hc h0
    rw [isD_iff] at hc
    have : c.toNat ≠ 48 := fun h => h0 (UInt8.toNat_inj.1 (by simpa using h))
    simp only [decVal, List.foldl_cons, List.foldl_nil]
    omega
  | snoc l d ih =>
    intro c hc h0
    have := ih c hc h0
    rw [← List.cons_append, decVal_snoc]
    omega
theorem dec_decVal (l : List UInt8) (hne : l ≠ []) (hd : ∀ c ∈ l, isD c = true) (h0 : l.getD 0 0 = 48 → l.length = 1) : dec (decVal l) = l := by
  induction l using snoc_ind with
  | nil => exact absurd rfl hne
  | snoc l c ih =>
    have hc := (isD_iff c).1 (hd c (by simp))
    cases l with
    | nil =>
      have e : decVal ([] ++ [c]) = c.toNat - 48 := by simp [decVal]
      rw [e, dec_small (by omega), show 48 + (c.toNat - 48) = c.toNat by omega]
      simp
    | cons a r =>
      have ha : a ≠ 48 := by
        intro h
        have := h0 (by simp [h])
        simp at this
      have hp := decVal_pos r a (hd a (by simp)) ha
      have ih' := ih (by simp) (fun x hx => hd x (by simp at hx ⊢; rcases hx with h | h; exact .inl h; exact .inr (.inl h))) (fun h => absurd (by simpa using h) ha)
      rw [decVal_snoc, dec_big (by omega), show (10 * decVal (a :: r) + (c.toNat - 48)) / 10 = decVal (a :: r) by omega, ih',
        show (10 * decVal (a :: r) + (c.toNat - 48)) % 10 = c.toNat - 48 by omega, show 48 + (c.toNat - 48) = c.toNat by omega]
      simp

/-! ### Pieces -/
def enc (p : List UInt8) : List UInt8 := dec p.length ++ 58 :: p
def pieces (l : List (List UInt8)) : List UInt8 := l.flatMap enc

theorem takeWhile_dec (n : Nat) (u : List UInt8) : (dec n ++ 58 :: u).takeWhile isD = dec n := by
  rw [List.takeWhile_append_of_pos (dec_digits n)]
  simp [isD]
theorem enc_inj {p q x y : List UInt8} (h : enc p ++ x = enc q ++ y) : p = q ∧ x = y := by
  unfold enc at h
  rw [List.append_assoc, List.append_assoc, List.cons_append, List.cons_append] at h
  have h1 := congrArg (List.takeWhile isD) h
  rw [takeWhile_dec, takeWhile_dec] at h1
  have hl : p.length = q.length := by rw [← decVal_dec p.length, h1, decVal_dec]
  rw [h1] at h
  have h2 := List.append_cancel_left h
  injection h2 with _ h3
  exact List.append_inj h3 hl
theorem pieces_nil : pieces [] = [] := rfl
theorem pieces_cons (p : List UInt8) (l : List (List UInt8)) : pieces (p :: l) = enc p ++ pieces l := by simp [pieces]
theorem pieces_append (l m : List (List UInt8)) : pieces (l ++ m) = pieces l ++ pieces m := by simp [pieces]
theorem enc_ne_nil (p : List UInt8) : enc p ≠ [] := by unfold enc; simp
theorem length_le_pieces (l : List (List UInt8)) : l.length ≤ (pieces l).length := by
  induction l with
  | nil => simp
  | cons p r ih => rw [pieces_cons, List.length_append, List.length_cons]; have := enc_ne_nil p; have : 0 < (enc p).length := List.length_pos_iff.2 this; omega
theorem pieces_split : ∀ (ps l : List (List UInt8)) (t : List UInt8), pieces l = pieces ps ++ t → ∃ l', l = ps ++ l' ∧ t = pieces l'
  | [], l, t, h => ⟨l, rfl, by simpa [pieces] using h.symm⟩
  | p :: ps, [], t, h => by
    rw [pieces_cons, pieces_nil] at h
    have := congrArg List.length h
    have hp := enc_ne_nil p
    simp only [List.length_append, List.length_nil] at this
    exact absurd (List.length_eq_zero_iff.1 (by omega)) hp
  | p :: ps, q :: l, t, h => by
    rw [pieces_cons, pieces_cons, List.append_assoc] at h
    obtain ⟨rfl, h2⟩ := enc_inj h
    obtain ⟨l', rfl, rfl⟩ := pieces_split ps l t h2
    exact ⟨l', rfl, rfl⟩
theorem pieces_inj {l m : List (List UInt8)} (h : pieces l = pieces m) : l = m := by
  obtain ⟨l', rfl, h2⟩ := pieces_split m l [] (by simpa using h)
  cases l' with
  | nil => simp
  | cons p r =>
    rw [pieces_cons] at h2
    have := congrArg List.length h2
    have hp := enc_ne_nil p
    simp only [List.length_append, List.length_nil] at this
    exact absurd (List.length_eq_zero_iff.1 (by omega)) hp

/-! ### How one piece is found -/
/-- The first j bytes are digits, and no more are looked at than ten, or than there are digits. -/
structure DigRun (s : List UInt8) (j : Nat) : Prop where
  ten : j ≤ 10
  len : j ≤ s.length
  dig : ∀ t, t < j → isD (s.getD t 0) = true
  stop : j = 10 ∨ j = s.length ∨ isD (s.getD j 0) = false
/-- What is asked behind them. -/
def Good1 (s : List UInt8) (j : Nat) : Prop := j ≠ 0 ∧ j ≠ s.length ∧ s.getD j 0 = 58 ∧ ¬ (s.getD 0 0 = 48 ∧ 1 < j) ∧ decVal (s.take j) ≤ s.length - j - 1
instance (s : List UInt8) (j : Nat) : Decidable (Good1 s j) := by unfold Good1; infer_instance

theorem take_digits {s : List UInt8} {j : Nat} (h : DigRun s j) : ∀ c ∈ s.take j, isD c = true := by
  intro c hc
  obtain ⟨i, hi, rfl⟩ := List.getElem_of_mem hc
  have hi' : i < j := by rw [List.length_take] at hi; omega
  have := h.dig i hi'
  rw [List.getElem_take]
  have hl := h.len
  simpa [List.getD, List.getElem?_eq_getElem (show i < s.length by omega)] using this
theorem good_enc {s : List UInt8} {j : Nat} (h : DigRun s j) (g : Good1 s j) :
    ∃ p r, s = enc p ++ r ∧ p = (s.drop (j + 1)).take (decVal (s.take j)) ∧ (enc p).length = j + 1 + decVal (s.take j) := by
  obtain ⟨g0, g1, g2, g3, g4⟩ := g
  have hl := h.len
  have hlt : j < s.length := by omega
  have hne : s.take j ≠ [] := by intro e; have := congrArg List.length e; rw [List.length_take, List.length_nil] at this; omega
  have hd := dec_decVal (s.take j) hne (take_digits h) (fun e => by
    have e2 : (s.take j).getD 0 0 = s.getD 0 0 := by simp [List.getD, show 0 < j by omega]
    rw [e2] at e
    have : ¬ 1 < j := fun hj => g3 ⟨e, hj⟩
    rw [List.length_take]; omega)
  have hplen : ((s.drop (j + 1)).take (decVal (s.take j))).length = decVal (s.take j) := by
    rw [List.length_take, List.length_drop]; omega
  refine ⟨_, (s.drop (j + 1)).drop (decVal (s.take j)), ?_, rfl, ?_⟩
  · unfold enc
    rw [hplen, hd, List.append_assoc, List.cons_append, List.take_append_drop]
    have hj : s.drop j = 58 :: s.drop (j + 1) := by
      rw [List.drop_eq_getElem_cons hlt]
      congr 1
      simpa [List.getD, List.getElem?_eq_getElem hlt] using g2
    rw [← hj, List.take_append_drop]
  · unfold enc
    rw [List.length_append, hplen, hd, List.length_take, List.length_cons, hplen]
    omega
theorem enc_good {s p r : List UInt8} (h : s = enc p ++ r) (hp : (dec p.length).length ≤ 10) (j : Nat) (hj : DigRun s j) : j = (dec p.length).length ∧ Good1 s j := by
  have hs : s = dec p.length ++ 58 :: (p ++ r) := by rw [h]; simp [enc]
  have hlen : s.length = (dec p.length).length + 1 + (p.length + r.length) := by rw [hs]; simp; omega
  have hat : s.getD (dec p.length).length 0 = 58 := by rw [hs]; simp [List.getD]
  have hin : ∀ t, t < (dec p.length).length → s.getD t 0 = (dec p.length).getD t 0 := by
    intro t ht
    rw [hs]
    simp [List.getD, List.getElem?_append_left ht]
  have hjd : j = (dec p.length).length := by
    rcases Nat.lt_trichotomy j (dec p.length).length with h1 | h1 | h1
    · exfalso
      rcases hj.stop with h2 | h2 | h2
      · omega
      · omega
      · rw [hin j h1] at h2
        have : isD ((dec p.length).getD j 0) = true := by
          apply dec_digits p.length
          simp [List.getD, List.getElem?_eq_getElem h1]
        rw [this] at h2; cases h2
    · exact h1
    · exfalso
      have := hj.dig _ h1
      rw [hat] at this
      simp [isD] at this
  refine ⟨hjd, ?_⟩
  have htake : s.take j = dec p.length := by rw [hjd, hs]; simp
  have hne := dec_ne_nil p.length
  refine ⟨?_, ?_, ?_, ?_, ?_⟩
  · intro h0
    rw [hjd] at h0
    exact hne (List.length_eq_zero_iff.1 h0)
  · omega
  · rw [hjd]; exact hat
  · rintro ⟨h0, h1⟩
    have hpos : 0 < (dec p.length).length := by omega
    rw [hin 0 hpos] at h0
    have := dec_head p.length h0
    omega
  · rw [htake, decVal_dec, hjd]; omega

/-- How far a text is cut into pieces: those found, and where it stands. -/
structure CutTo (s : List UInt8) (ps : List (List UInt8)) (k : Nat) : Prop where
  split : s = pieces ps ++ s.drop k
  len : k = (pieces ps).length
theorem CutTo.start (s : List UInt8) : CutTo s [] 0 := ⟨by simp [pieces], rfl⟩
theorem CutTo.le {s : List UInt8} {ps : List (List UInt8)} {k : Nat} (h : CutTo s ps k) : k ≤ s.length := by
  have := congrArg List.length h.split
  rw [List.length_append] at this
  have := h.len
  omega
theorem CutTo.step {s : List UInt8} {ps : List (List UInt8)} {k j : Nat} (h : CutTo s ps k) (hj : DigRun (s.drop k) j) (g : Good1 (s.drop k) j) :
    CutTo s (ps ++ [((s.drop k).drop (j + 1)).take (decVal ((s.drop k).take j))]) (k + (j + 1 + decVal ((s.drop k).take j))) := by
  obtain ⟨p, r, hs, hp, hl⟩ := good_enc hj g
  rw [← hp]
  constructor
  · rw [pieces_append, show pieces [p] = enc p by simp [pieces], List.append_assoc]
    have e : s.drop (k + (j + 1 + decVal ((s.drop k).take j))) = r := by
      rw [← List.drop_drop, ← hl]
      conv => lhs; rw [hs]
      simp
    rw [e, ← hs]
    exact h.split
  · rw [pieces_append, List.length_append, show pieces [p] = enc p by simp [pieces], hl, ← h.len]
theorem CutTo.done {s : List UInt8} {ps : List (List UInt8)} {k : Nat} (h : CutTo s ps k) (hk : s.length ≤ k) : s = pieces ps := by
  have := h.split
  rw [List.drop_of_length_le hk, List.append_nil] at this
  exact this
/-- Where what is told of texts is cut, no fault is met. -/
theorem CutTo.no_fault {l ps : List (List UInt8)} {k j : Nat} (h : CutTo (pieces l) ps k) (hk : k < (pieces l).length) (hsmall : ∀ p ∈ l, (dec p.length).length ≤ 10)
    (hj : DigRun ((pieces l).drop k) j) : Good1 ((pieces l).drop k) j := by
  obtain ⟨l', rfl, ht⟩ := pieces_split ps l _ h.split
  cases l' with
  | nil =>
    rw [pieces_nil] at ht
    have := congrArg List.length ht
    rw [List.length_drop, List.length_nil] at this
    omega
  | cons p r =>
    rw [pieces_cons] at ht
    exact (enc_good ht (hsmall p (by simp)) j hj).2

end Plain
end Go.Proofs.YtgjelinnpcekmaaGreatDoor
