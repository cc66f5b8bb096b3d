/-
  Plain laws of words of a line: where words stand, texts one behind the other, texts in quotes. No program in sight.
-/
import Derived.Test.YtapghojjkeegjaaDoorWrdP
namespace Go.Proofs.YtapghojjkeegjaaDoor
namespace Wrd

section
variable (s : List UInt8) (e : UInt8)
theorem fin_q : ∀ (n : Nat) (out : List (Nat × List UInt8)) (st fr q q' i : Nat), s.length - i ≤ n → st ≤ 1 → fin s e ⟨out, st, fr, q, i⟩ = fin s e ⟨out, st, fr, q', i⟩ := by
  intro n
  induction n with
  | zero =>
    intro out st fr q q' i h hst
    rw [fin_done (by simp only; omega), fin_done (by simp only; omega)]
    rcases (by omega : st = 0 ∨ st = 1) with rfl | rfl <;> simp [told]
  | succ n ih =>
    intro out st fr q q' i h hst
    by_cases hi : i < s.length
    · rw [fin_step (x := ⟨out, st, fr, q, i⟩) hi, fin_step (x := ⟨out, st, fr, q', i⟩) hi]
      unfold step
      simp only
      generalize s.getD i 0 = c
      have key : ∀ fr', fin s e (inWord s e c ⟨out, 1, fr', q, i⟩) = fin s e (inWord s e c ⟨out, 1, fr', q', i⟩) := by
        intro fr'
        unfold inWord
        split
        · exact ih _ _ _ _ _ _ (by simp only; omega) (by omega)
        · split
          · rfl
          · split
            · rfl
            · split
              · exact ih _ _ _ _ _ _ (by simp only; omega) (by omega)
              · exact ih _ _ _ _ _ _ (by simp only; omega) (by omega)
      rcases (by omega : st = 0 ∨ st = 1) with rfl | rfl
      · cases hb : blank c
        · rw [stepC_0w hb, stepC_0w hb]; exact key i
        · rw [stepC_0b hb, stepC_0b hb]; exact ih _ _ _ _ _ _ (by omega) (by omega)
      · rw [stepC_1, stepC_1]; exact key fr
    · rw [fin_done (by simpa using hi), fin_done (by simpa using hi)]
      rcases (by omega : st = 0 ∨ st = 1) with rfl | rfl <;> simp [told]
theorem fin_fr : ∀ (n : Nat) (out : List (Nat × List UInt8)) (fr q fr' q' i : Nat), s.length - i ≤ n → fin s e ⟨out, 0, fr, q, i⟩ = fin s e ⟨out, 0, fr', q', i⟩ := by
  intro n
  induction n with
  | zero =>
    intro out fr q fr' q' i h
    rw [fin_done (by simp only; omega), fin_done (by simp only; omega)]
    simp [told]
  | succ n ih =>
    intro out fr q fr' q' i h
    by_cases hi : i < s.length
    · rw [fin_step (x := ⟨out, 0, fr, q, i⟩) hi, fin_step (x := ⟨out, 0, fr', q', i⟩) hi]
      unfold step
      simp only
      generalize hc : s.getD i 0 = c
      cases hb : blank c
      · rw [stepC_0w hb, stepC_0w hb, ← stepC_1 (fr := i), ← stepC_1 (fr := i)]
        have := fin_q s e _ out 1 i q q' i (Nat.le_refl _) (by omega)
        rw [fin_step (x := ⟨out, 1, i, q, i⟩) hi, fin_step (x := ⟨out, 1, i, q', i⟩) hi] at this
        unfold step at this
        simp only [hc] at this
        exact this
      · rw [stepC_0b hb, stepC_0b hb]; exact ih _ _ _ _ _ _ (by omega)
    · rw [fin_done (by simpa using hi), fin_done (by simpa using hi)]
      simp [told]
theorem fin_word {out : List (Nat × List UInt8)} {fr q i : Nat} (hi : i < s.length) (hb : blank (s.getD i 0) = false) : fin s e ⟨out, 0, fr, q, i⟩ = fin s e ⟨out, 1, i, i, i⟩ := by
  rw [← fin_q s e _ out 1 i q i i (Nat.le_refl _) (by omega), fin_step (x := ⟨out, 0, fr, q, i⟩) hi, fin_step (x := ⟨out, 1, i, q, i⟩) hi]
  unfold step
  simp only
  rw [stepC_0w hb, stepC_1]
theorem fin_blank {out : List (Nat × List UInt8)} {fr q i : Nat} (hi : i < s.length) (hb : blank (s.getD i 0) = true) : fin s e ⟨out, 0, fr, q, i⟩ = fin s e ⟨out, 0, 0, 0, i + 1⟩ := by
  rw [fin_step (x := ⟨out, 0, fr, q, i⟩) hi]
  unfold step
  simp only
  rw [stepC_0b hb]
  exact fin_fr s e _ _ _ _ _ _ _ (Nat.le_refl _)
end

/-- The state within the quote that a byte begins. -/
def qst (c : UInt8) : Nat := if c = 39 then 2 else 3
/-- What the scan of a quote finds: no end; or its place. -/
def QuoteEnd (s : List UInt8) (e : UInt8) (i : Nat) (r : Int) : Prop :=
  (r = -1 ∧ ∀ out fr, fin s e ⟨out, qst (s.getD i 0), fr, i, i + 1⟩ = .error i) ∨
  (∃ k : Nat, r = k ∧ i < k ∧ k < s.length ∧ ∀ out fr, fin s e ⟨out, qst (s.getD i 0), fr, i, i + 1⟩ = fin s e ⟨out, 1, fr, i, k + 1⟩)
/-- What the scan of a word finds: its end; or the place of a quote without an end. -/
def WordEnd (s : List UInt8) (e : UInt8) (i j : Nat) (ok : Bool) : Prop :=
  (ok = true ∧ i < j ∧ j ≤ s.length ∧ ∀ out, fin s e ⟨out, 1, i, i, i⟩ = fin s e ⟨out ++ [(i, cut s i j)], 0, 0, 0, j⟩) ∨
  (ok = false ∧ ∀ out, fin s e ⟨out, 1, i, i, i⟩ = .error j)

theorem cut_len {s : List UInt8} {a b : Nat} (h : a ≤ b) (hb : b ≤ s.length) : (cut s a b).length = b - a := by
  unfold cut; rw [List.length_take, List.length_drop]; omega
theorem cut_snoc {s : List UInt8} {a i : Nat} (h : a ≤ i) (hi : i < s.length) : cut s a (i + 1) = cut s a i ++ [s.getD i 0] := by
  unfold cut
  rw [show i + 1 - a = (i - a) + 1 by omega, List.take_add_one]
  congr 1
  rw [List.getElem?_drop, show a + (i - a) = i by omega]
  simp [List.getD, List.getElem?_eq_getElem hi]
theorem cut_self (s : List UInt8) (a : Nat) : cut s a a = [] := by unfold cut; simp
theorem cut_all {s : List UInt8} {a i : Nat} (h : s.length ≤ i) : cut s a i = s.drop a := by
  unfold cut; exact List.take_of_length_le (by rw [List.length_drop]; omega)
theorem cut_head {s : List UInt8} {a i : Nat} (h : a < i) : (cut s a i).getD 0 0 = s.getD a 0 := by
  unfold cut
  simp only [List.getD, List.getElem?_take, if_pos (show 0 < i - a by omega), List.getElem?_drop, Nat.add_zero]

/-- Where the last word ends. -/
def ends (l : List (Nat × List UInt8)) : Nat := match l.getLast? with
  | some x => x.1 + x.2.length
  | none => 0
theorem ends_snoc (l : List (Nat × List UInt8)) (x : Nat × List UInt8) : ends (l ++ [x]) = x.1 + x.2.length := by simp [ends]
/-- Words stand where they are told to, blanks between. -/
def CovAt (s : List UInt8) (k E : Nat) (x : Nat × List UInt8) : Prop :=
  E ≤ x.1 ∧ 1 ≤ x.2.length ∧ x.1 + x.2.length ≤ s.length ∧ cut s x.1 (x.1 + x.2.length) = x.2 ∧ (cut s E x.1).all blank = true ∧ (0 < k → E < x.1) ∧ blank (x.2.getD 0 0) = false
def Cov (s : List UInt8) (l : List (Nat × List UInt8)) : Prop := ∀ k x, l[k]? = some x → CovAt s k (ends (l.take k)) x
theorem cov_nil (s : List UInt8) : Cov s [] := fun k x h => by simp at h
theorem cov_snoc {s : List UInt8} {l : List (Nat × List UInt8)} {x : Nat × List UInt8} (h : Cov s l) (hx : CovAt s l.length (ends l) x) : Cov s (l ++ [x]) := by
  intro k y hk
  by_cases hlt : k < l.length
  · rw [List.getElem?_append_left hlt] at hk
    rw [List.take_append_of_le_length (by omega)]
    exact h k y hk
  · rw [List.getElem?_append_right (by omega)] at hk
    have : k = l.length := by
      rcases Nat.lt_or_ge (k - l.length) 1 with h1 | h1
      · omega
      · rw [List.getElem?_eq_none (by simpa using h1)] at hk; cases hk
    subst this
    simp at hk
    subst hk
    rw [List.take_left']
    · exact hx
    · rfl
structure CI (s : List UInt8) (x : M) : Prop where
  cov : Cov s x.out
  en : ends x.out ≤ s.length
  st : x.st ≤ 3
  z : x.st = 0 → ends x.out ≤ x.i ∧ (x.out ≠ [] → ends x.out < x.i) ∧ (cut s (ends x.out) x.i).all blank = true
  w : x.st ≠ 0 → ends x.out ≤ x.fr ∧ (x.out ≠ [] → ends x.out < x.fr) ∧ (cut s (ends x.out) x.fr).all blank = true ∧ x.fr < x.i ∧ x.fr < s.length ∧ blank (s.getD x.fr 0) = false
  qq : 2 ≤ x.st → x.q < s.length ∧ (s.getD x.q 0 = 39 ∨ s.getD x.q 0 = 34)
theorem inWord_ci {s : List UInt8} {e : UInt8} {out : List (Nat × List UInt8)} {st fr q i : Nat} (hc : Cov s out) (he : ends out ≤ s.length) (h1 : ends out ≤ fr) (h2 : out ≠ [] → ends out < fr)
    (h3 : (cut s (ends out) fr).all blank = true) (h4 : fr ≤ i) (h5 : blank (s.getD i 0) = true → fr < i) (h6 : i < s.length) (h7 : blank (s.getD fr 0) = false) : CI s (inWord s e (s.getD i 0) ⟨out, st, fr, q, i⟩) := by
  cases hb : blank (s.getD i 0)
  · have hw : ∀ q' i', i < i' → (fr < i' ∧ fr < s.length) := fun q' i' h => ⟨by omega, by omega⟩
    by_cases h39 : s.getD i 0 = 39
    · rw [inWord_39 hb h39]
      exact ⟨hc, he, by simp, by simp, fun _ => ⟨h1, h2, h3, by simp; omega, by simp; omega, h7⟩, fun _ => ⟨h6, .inl h39⟩⟩
    · by_cases h34 : s.getD i 0 = 34
      · rw [inWord_34 hb h39 h34]
        exact ⟨hc, he, by simp, by simp, fun _ => ⟨h1, h2, h3, by simp; omega, by simp; omega, h7⟩, fun _ => ⟨h6, .inr h34⟩⟩
      · by_cases hee : s.getD i 0 = e
        · rw [inWord_e hb h39 h34 hee]
          exact ⟨hc, he, by simp, by simp, fun _ => ⟨h1, h2, h3, by simp; omega, by simp; omega, h7⟩, by simp⟩
        · rw [inWord_n hb h39 h34 hee]
          exact ⟨hc, he, by simp, by simp, fun _ => ⟨h1, h2, h3, by simp; omega, by simp; omega, h7⟩, by simp⟩
  · have hlt := h5 hb
    rw [inWord_b hb]
    have hl : (cut s fr i).length = i - fr := cut_len h4 (by omega)
    have hen : ends (out ++ [(fr, cut s fr i)]) = i := by rw [ends_snoc]; simp only [hl]; omega
    refine ⟨cov_snoc hc ⟨h1, by simp only [hl]; omega, by simp only [hl]; omega, by simp only [hl]; rw [show fr + (i - fr) = i by omega], h3, fun hk => h2 (by intro e; rw [e] at hk; simp at hk), by simp only; rw [cut_head hlt]; exact h7⟩, by simp only [hen]; omega, by simp, fun _ => ?_, by simp, by simp⟩
    simp only [hen]
    refine ⟨by omega, fun _ => by omega, ?_⟩
    rw [cut_snoc (Nat.le_refl _) h6, cut_self]
    simpa using hb
theorem step_ci {s : List UInt8} {e : UInt8} {x : M} (h : CI s x) (hi : x.i < s.length) : CI s (step s e x) := by
  obtain ⟨out, st, fr, q, i⟩ := x
  obtain ⟨hc, he, hs, hz, hw, hq⟩ := h
  simp only at hc he hs hz hw hq hi
  unfold step
  simp only
  rcases (by omega : st = 0 ∨ st = 1 ∨ st = 2 ∨ st = 3) with rfl | rfl | rfl | rfl
  · obtain ⟨z1, z2, z3⟩ := hz rfl
    cases hb : blank (s.getD i 0)
    · rw [stepC_0w hb]
      exact inWord_ci hc he z1 z2 z3 (Nat.le_refl _) (fun h => by rw [hb] at h; cases h) hi hb
    · rw [stepC_0b hb]
      refine ⟨hc, he, by simp, fun _ => ⟨by simp only; omega, fun hn => by have := z2 hn; simp only; omega, ?_⟩, by simp, by simp⟩
      simp only
      rw [cut_snoc z1 hi, List.all_append, z3]
      simpa using hb
  · obtain ⟨w1, w2, w3, w4, w5, w6⟩ := hw (by simp)
    rw [stepC_1]
    exact inWord_ci hc he w1 w2 w3 (by omega) (fun _ => w4) hi w6
  · obtain ⟨w1, w2, w3, w4, w5, w6⟩ := hw (by simp)
    by_cases h39 : s.getD i 0 = 39
    · rw [stepC_2q h39]
      exact ⟨hc, he, by simp, by simp, fun _ => ⟨w1, w2, w3, by simp only; omega, w5, w6⟩, by simp⟩
    · rw [stepC_2n h39]
      exact ⟨hc, he, by simp, by simp, fun _ => ⟨w1, w2, w3, by simp only; omega, w5, w6⟩, fun _ => hq (by simp)⟩
  · obtain ⟨w1, w2, w3, w4, w5, w6⟩ := hw (by simp)
    by_cases h34 : s.getD i 0 = 34
    · rw [stepC_3q h34]
      exact ⟨hc, he, by simp, by simp, fun _ => ⟨w1, w2, w3, by simp only; omega, w5, w6⟩, by simp⟩
    · by_cases hee : s.getD i 0 = e
      · rw [stepC_3e h34 hee]
        exact ⟨hc, he, by simp, by simp, fun _ => ⟨w1, w2, w3, by simp only; omega, w5, w6⟩, fun _ => hq (by simp)⟩
      · rw [stepC_3n h34 hee]
        exact ⟨hc, he, by simp, by simp, fun _ => ⟨w1, w2, w3, by simp only; omega, w5, w6⟩, fun _ => hq (by simp)⟩
/-- What was told covers the text. -/
def Covered (s : List UInt8) : Except Nat (List (Nat × List UInt8)) → Prop
  | .ok l => Cov s l ∧ ends l ≤ s.length ∧ (s.drop (ends l)).all blank = true
  | .error q => q < s.length ∧ (s.getD q 0 = 39 ∨ s.getD q 0 = 34)
theorem told_ci {s : List UInt8} {x : M} (h : CI s x) (hi : s.length ≤ x.i) : Covered s (told s x) := by
  obtain ⟨out, st, fr, q, i⟩ := x
  obtain ⟨hc, he, hs, hz, hw, hq⟩ := h
  simp only at hc he hs hz hw hq hi
  rcases (by omega : st = 0 ∨ st = 1 ∨ 2 ≤ st) with rfl | rfl | h2
  · obtain ⟨z1, z2, z3⟩ := hz rfl
    rw [show told s ⟨out, 0, fr, q, i⟩ = .ok out by simp [told]]
    rw [cut_all hi] at z3
    exact ⟨hc, he, z3⟩
  · obtain ⟨w1, w2, w3, w4, w5, w6⟩ := hw (by simp)
    rw [show told s ⟨out, 1, fr, q, i⟩ = .ok (out ++ [(fr, s.drop fr)]) by simp [told]]
    have hl : (s.drop fr).length = s.length - fr := List.length_drop
    refine ⟨cov_snoc hc ⟨w1, by simp only [hl]; omega, by simp only [hl]; omega, by simp only [hl]; rw [show fr + (s.length - fr) = s.length by omega, cut_all (Nat.le_refl _)], w3, fun hk => w2 (by intro e; rw [e] at hk; simp at hk), ?_⟩, by rw [ends_snoc]; simp only [hl]; omega, ?_⟩
    · simp only
      rw [← cut_all (Nat.le_refl _), cut_head w5]; exact w6
    · rw [ends_snoc]; simp only [hl]
      rw [List.drop_of_length_le (by omega)]; rfl
  · rw [show told s ⟨out, st, fr, q, i⟩ = .error q by unfold told; rw [if_neg (by simp only; omega), if_neg (by simp only; omega)]]
    exact hq h2
theorem fin_ci {s : List UInt8} {e : UInt8} : ∀ (n : Nat) (x : M), s.length - x.i ≤ n → CI s x → Covered s (fin s e x)
  | 0, x, hn, h => by rw [fin_done (by omega)]; exact told_ci h (by omega)
  | n + 1, x, hn, h => by
    by_cases hi : x.i < s.length
    · rw [fin_step hi]
      exact fin_ci n _ (by have := step_i s e x; omega) (step_ci h hi)
    · rw [fin_done hi]; exact told_ci h (by omega)
theorem split_covered (s : List UInt8) (c : UInt8) : Covered s (split s c) :=
  fin_ci _ _ (Nat.le_refl _) ⟨cov_nil s, by simp [ends], by simp, fun _ => ⟨by simp [ends], by simp, by simp [ends, cut]⟩, by simp, by simp⟩

/-- Two texts with a blank between. -/
theorem getD_app {s t : List UInt8} {i : Nat} (h : i < s.length) : (s ++ t).getD i 0 = s.getD i 0 := by simp [List.getD, List.getElem?_append_left h]
theorem getD_app2 {s t : List UInt8} {i : Nat} : (s ++ t).getD (i + s.length) 0 = t.getD i 0 := by simp [List.getD, List.getElem?_append_right (show s.length ≤ i + s.length by omega)]
theorem cut_app {s t : List UInt8} {a i : Nat} (h : i ≤ s.length) : cut (s ++ t) a i = cut s a i := by
  unfold cut
  by_cases ha : a ≤ s.length
  · rw [List.drop_append_of_le_length ha, List.take_append_of_le_length (by rw [List.length_drop]; omega)]
  · rw [show i - a = 0 by omega]; rfl
theorem cut_app2 {s t : List UInt8} {a i : Nat} : cut (s ++ t) (a + s.length) (i + s.length) = cut t a i := by
  unfold cut
  rw [show i + s.length - (a + s.length) = i - a by omega, Nat.add_comm a, List.drop_append, List.drop_of_length_le (by omega), List.nil_append, show s.length + a - s.length = a by omega]
theorem inWord_app {s t : List UInt8} {e c : UInt8} {x : M} (h : x.i ≤ s.length) : inWord (s ++ t) e c x = inWord s e c x := by unfold inWord; rw [cut_app h]
theorem step_app {s t : List UInt8} {e : UInt8} {x : M} (h : x.i < s.length) : step (s ++ t) e x = step s e x := by
  unfold step
  rw [getD_app h]
  unfold stepC
  rw [inWord_app (x := ⟨x.out, 1, x.i, x.q, x.i⟩) (by simp only; omega), inWord_app (by omega)]
theorem step_last {s : List UInt8} {e : UInt8} {x : M} (hi : x.i < s.length) (hl : x.i + 1 = s.length → s.getD x.i 0 ≠ e) : (step s e x).i ≤ s.length := by
  obtain ⟨out, st, fr, q, i⟩ := x
  simp only at hi hl
  by_cases h : i + 1 = s.length
  · have hne := hl h
    unfold step stepC inWord
    simp only
    repeat' split
    all_goals first | (simp only; omega) | contradiction
  · have := (step_i s e ⟨out, st, fr, q, i⟩).2
    simp only at this
    omega
theorem join_first {s t : List UInt8} {e b : UInt8} (hb : blank b = true) (hlast : s ≠ [] → s.getD (s.length - 1) 0 ≠ e) : ∀ (n : Nat) (x : M) (l : List (Nat × List UInt8)), s.length - x.i ≤ n → x.i ≤ s.length → fin s e x = .ok l →
    fin (s ++ b :: t) e x = fin (s ++ b :: t) e ⟨l, 0, 0, 0, s.length + 1⟩ := by
  intro n
  induction n with
  | zero =>
    intro x l hn hi hl
    obtain ⟨out, st, fr, q, i⟩ := x
    simp only at hn hi
    obtain rfl : i = s.length := by omega
    rw [fin_done (by simp)] at hl
    have hg : (s ++ b :: t).getD s.length 0 = b := by have := getD_app2 (s := s) (t := b :: t) (i := 0); rwa [Nat.zero_add] at this
    have hlt : s.length < (s ++ b :: t).length := by simp
    rcases (by omega : st = 0 ∨ st = 1 ∨ 2 ≤ st) with rfl | rfl | h2
    · have : out = l := by simpa [told] using hl
      subst this
      exact fin_blank _ _ hlt (by rw [hg]; exact hb)
    · have : out ++ [(fr, s.drop fr)] = l := by simpa [told] using hl
      subst this
      rw [fin_step (x := ⟨out, 1, fr, q, s.length⟩) hlt]
      unfold step
      simp only
      rw [hg, stepC_1, inWord_b hb, cut_app (Nat.le_refl _), cut_all (Nat.le_refl _)]
      exact fin_fr _ _ _ _ _ _ _ _ _ (Nat.le_refl _)
    · have : told s ⟨out, st, fr, q, s.length⟩ = .error q := by unfold told; rw [if_neg (by simp only; omega), if_neg (by simp only; omega)]
      rw [this] at hl; cases hl
  | succ n ih =>
    intro x l hn hi hl
    by_cases hlt : x.i < s.length
    · rw [fin_step hlt] at hl
      rw [fin_step (x := x) (by rw [List.length_append]; omega), step_app hlt]
      have hsi := step_i s e x
      exact ih _ l (by omega) (step_last hlt (fun h => by have := hlast (by intro e; rw [e] at hlt; simp at hlt); rwa [show s.length - 1 = x.i by omega] at this)) hl
    · exact ih x l (by omega) hi hl
def sh (d : Nat) (l : List (Nat × List UInt8)) : List (Nat × List UInt8) := l.map fun x => (x.1 + d, x.2)
theorem inWord_sh {p t : List UInt8} {e c : UInt8} {a out : List (Nat × List UInt8)} {st fr q i : Nat} :
    ∃ out' st' fr' q' i', inWord t e c ⟨out, st, fr, q, i⟩ = ⟨out', st', fr', q', i'⟩ ∧ inWord (p ++ t) e c ⟨a ++ sh p.length out, st, fr + p.length, q + p.length, i + p.length⟩ = ⟨a ++ sh p.length out', st', fr' + p.length, q' + p.length, i' + p.length⟩ := by
  cases hb : blank c
  · by_cases h39 : c = 39
    · exact ⟨_, _, _, _, _, inWord_39 hb h39, by rw [inWord_39 hb h39, show i + p.length + 1 = i + 1 + p.length by omega]⟩
    · by_cases h34 : c = 34
      · exact ⟨_, _, _, _, _, inWord_34 hb h39 h34, by rw [inWord_34 hb h39 h34, show i + p.length + 1 = i + 1 + p.length by omega]⟩
      · by_cases he : c = e
        · exact ⟨_, _, _, _, _, inWord_e hb h39 h34 he, by rw [inWord_e hb h39 h34 he, show i + p.length + 2 = i + 2 + p.length by omega]⟩
        · exact ⟨_, _, _, _, _, inWord_n hb h39 h34 he, by rw [inWord_n hb h39 h34 he, show i + p.length + 1 = i + 1 + p.length by omega]⟩
  · exact ⟨_, _, _, _, _, inWord_b hb, by rw [inWord_b hb, cut_app2, show i + p.length + 1 = i + 1 + p.length by omega]; simp [sh]⟩
theorem fin_sh {p t : List UInt8} {e : UInt8} {a : List (Nat × List UInt8)} : ∀ (n : Nat) (out : List (Nat × List UInt8)) (st fr q i : Nat) (l : List (Nat × List UInt8)), t.length - i ≤ n → fin t e ⟨out, st, fr, q, i⟩ = .ok l →
    fin (p ++ t) e ⟨a ++ sh p.length out, st, fr + p.length, q + p.length, i + p.length⟩ = .ok (a ++ sh p.length l) := by
  intro n
  have done : ∀ (out : List (Nat × List UInt8)) (st fr q i : Nat) (l : List (Nat × List UInt8)), t.length ≤ i → fin t e ⟨out, st, fr, q, i⟩ = .ok l →
    fin (p ++ t) e ⟨a ++ sh p.length out, st, fr + p.length, q + p.length, i + p.length⟩ = .ok (a ++ sh p.length l) := by
    intro out st fr q i l hn hl
    rw [fin_done (by simp only; omega)] at hl
    rw [fin_done (by simp only [List.length_append]; omega)]
    rcases (by omega : st = 0 ∨ st = 1 ∨ 2 ≤ st) with rfl | rfl | h2
    · have : out = l := by simpa [told] using hl
      subst this
      simp [told]
    · have : out ++ [(fr, t.drop fr)] = l := by simpa [told] using hl
      subst this
      simp [told, sh, List.drop_append]
    · have : told t ⟨out, st, fr, q, i⟩ = .error q := by unfold told; rw [if_neg (by simp only; omega), if_neg (by simp only; omega)]
      rw [this] at hl; cases hl
  induction n with
  | zero => exact fun out st fr q i l hn hl => done out st fr q i l (by omega) hl
  | succ n ih =>
    intro out st fr q i l hn hl
    by_cases hi : i < t.length
    · rw [fin_step (x := ⟨out, st, fr, q, i⟩) hi] at hl
      rw [fin_step (x := ⟨a ++ sh p.length out, st, fr + p.length, q + p.length, i + p.length⟩) (by simp only [List.length_append]; omega)]
      unfold step at hl ⊢
      simp only at hl ⊢
      rw [getD_app2]
      have hsi := step_i t e ⟨out, st, fr, q, i⟩
      unfold step at hsi
      simp only at hsi
      revert hl hsi
      generalize t.getD i 0 = c
      intro hl hsi
      suffices ∃ out' st' fr' q' i', stepC t e c ⟨out, st, fr, q, i⟩ = ⟨out', st', fr', q', i'⟩ ∧ stepC (p ++ t) e c ⟨a ++ sh p.length out, st, fr + p.length, q + p.length, i + p.length⟩ = ⟨a ++ sh p.length out', st', fr' + p.length, q' + p.length, i' + p.length⟩ by
        obtain ⟨out', st', fr', q', i', h1, h2⟩ := this
        rw [h1] at hl hsi
        rw [h2]
        exact ih _ _ _ _ _ _ (by simp only at hsi; omega) hl
      by_cases h0 : st = 0
      · subst h0
        cases hb : blank c
        · rw [stepC_0w hb, stepC_0w hb]
          exact inWord_sh
        · exact ⟨_, _, _, _, _, stepC_0b hb, by rw [stepC_0b hb, show i + p.length + 1 = i + 1 + p.length by omega]⟩
      · by_cases h1 : st = 1
        · subst h1
          rw [stepC_1, stepC_1]
          exact inWord_sh
        · by_cases h2 : st = 2
          · subst h2
            by_cases h39 : c = 39
            · exact ⟨_, _, _, _, _, stepC_2q h39, by rw [stepC_2q h39, show i + p.length + 1 = i + 1 + p.length by omega]⟩
            · exact ⟨_, _, _, _, _, stepC_2n h39, by rw [stepC_2n h39, show i + p.length + 1 = i + 1 + p.length by omega]⟩
          · refine ⟨out, if c = 34 then 1 else 3, fr, q, if c ≠ 34 ∧ c = e then i + 2 else i + 1, ?_, ?_⟩
            · unfold stepC; simp only [if_neg h0, if_neg h1, if_neg h2]
              by_cases h34 : c = 34
              · simp [h34]
              · by_cases he : c = e
                · simp only [if_neg h34, if_pos he, if_pos (And.intro h34 he)]
                · simp [h34, he]
            · unfold stepC; simp only [if_neg h0, if_neg h1, if_neg h2]
              by_cases h34 : c = 34
              · simp [h34]; omega
              · by_cases he : c = e
                · simp only [if_neg h34, if_pos he, if_pos (And.intro h34 he)]; rw [show i + p.length + 2 = i + 2 + p.length by omega]
                · simp [h34, he]; omega
    · exact done out st fr q i l (by omega) hl
theorem split_join {s t : List UInt8} {c b : UInt8} {l m : List (Nat × List UInt8)} (hb : blank b = true) (hlast : s ≠ [] → s.getD (s.length - 1) 0 ≠ escOf c) (hs : split s c = .ok l) (ht : split t c = .ok m) :
    split (s ++ b :: t) c = .ok (l ++ sh (s.length + 1) m) := by
  unfold split at *
  rw [join_first hb hlast _ _ l (Nat.le_refl _) (by simp) hs]
  have := fin_sh (p := s ++ [b]) (a := l) _ [] 0 0 0 0 m (Nat.le_refl _) ht
  rw [List.append_assoc, List.length_append, List.length_singleton] at this
  rw [← this, show ([b] ++ t : List UInt8) = b :: t from rfl]
  simp only [sh, List.map_nil, List.append_nil, Nat.zero_add]
  exact fin_fr _ _ _ _ _ _ _ _ _ (Nat.le_refl _)

/-- Texts in quotes. -/
theorem escOf_cases (c : UInt8) : escOf c = 96 ∨ escOf c = 92 := by unfold escOf; split <;> simp
theorem plain_not {c : UInt8} (h : plainB c = true) : blank c = false ∧ c ≠ 39 ∧ c ≠ 34 ∧ c ≠ 96 ∧ c ≠ 92 := by
  revert h
  exact all8 (P := fun c => plainB c = true → blank c = false ∧ c ≠ 39 ∧ c ≠ 34 ∧ c ≠ 96 ∧ c ≠ 92) (by decide +kernel) c
theorem getD_drop {S : List UInt8} {i : Nat} {c : UInt8} {r : List UInt8} (h : S.drop i = c :: r) : i < S.length ∧ S.getD i 0 = c ∧ S.drop (i + 1) = r := by
  have hl := congrArg List.length h
  rw [List.length_drop, List.length_cons] at hl
  refine ⟨by omega, ?_, ?_⟩
  · have := congrArg (fun l => l.getD 0 0) h
    simpa [List.getD, List.getElem?_drop] using this
  · rw [← List.drop_drop, h]; rfl
theorem skip_bare {S : List UInt8} {e : UInt8} (he : e = 96 ∨ e = 92) : ∀ (w r : List UInt8) (out : List (Nat × List UInt8)) (fr q i : Nat), S.drop i = w ++ r → w.all plainB = true → fin S e ⟨out, 1, fr, q, i⟩ = fin S e ⟨out, 1, fr, q, i + w.length⟩
  | [], r, out, fr, q, i, _, _ => rfl
  | c :: w, r, out, fr, q, i, h, hp => by
    obtain ⟨h1, h2, h3⟩ := getD_drop h
    rw [List.all_cons, Bool.and_eq_true] at hp
    obtain ⟨p1, p2, p3, p4, p5⟩ := plain_not hp.1
    rw [fin_step (x := ⟨out, 1, fr, q, i⟩) h1]
    unfold step
    simp only
    rw [h2, stepC_1, inWord_n p1 p2 p3 (by rintro rfl; rcases he with h | h; exact p4 h; exact p5 h), skip_bare he w r _ _ _ _ h3 hp.2, List.length_cons]
    congr 2
    omega
theorem skip_esc {S : List UInt8} {e : UInt8} (he : e = 96 ∨ e = 92) : ∀ (w r : List UInt8) (out : List (Nat × List UInt8)) (fr q i : Nat), S.drop i = w.flatMap (esc1 e) ++ r → fin S e ⟨out, 3, fr, q, i⟩ = fin S e ⟨out, 3, fr, q, i + (w.flatMap (esc1 e)).length⟩
  | [], r, out, fr, q, i, _ => rfl
  | c :: w, r, out, fr, q, i, h => by
    rw [List.flatMap_cons, List.append_assoc] at h
    by_cases hn : c = 34 ∨ c = 36 ∨ c = e
    · have e1 : esc1 e c = [e, c] := by unfold esc1; rw [if_pos hn]
      rw [e1] at h
      obtain ⟨h1, h2, h3⟩ := getD_drop (by exact h : S.drop i = e :: ([c] ++ (w.flatMap (esc1 e) ++ r)))
      obtain ⟨_, _, h5⟩ := getD_drop (by exact h3 : S.drop (i + 1) = c :: (w.flatMap (esc1 e) ++ r))
      rw [fin_step (x := ⟨out, 3, fr, q, i⟩) h1]
      unfold step
      simp only
      rw [h2, stepC_3e (by rcases he with rfl | rfl <;> decide) rfl, skip_esc he w r _ _ _ _ h5, List.flatMap_cons, e1, List.length_append]
      congr 2
      simp only [List.length_cons, List.length_nil]
      omega
    · have e1 : esc1 e c = [c] := by unfold esc1; rw [if_neg hn]
      rw [e1] at h
      obtain ⟨h1, h2, h3⟩ := getD_drop (by exact h : S.drop i = c :: (w.flatMap (esc1 e) ++ r))
      rw [fin_step (x := ⟨out, 3, fr, q, i⟩) h1]
      unfold step
      simp only
      rw [h2, stepC_3n (fun h => hn (.inl h)) (fun h => hn (.inr (.inr h))), skip_esc he w r _ _ _ _ h3, List.flatMap_cons, e1, List.length_append]
      congr 2
      simp only [List.length_cons, List.length_nil]
      omega
theorem drop_add_app {S a b : List UInt8} {i : Nat} (h : S.drop i = a ++ b) : S.drop (i + a.length) = b := by
  rw [← List.drop_drop, h]; simp
theorem quote_word {S r w : List UInt8} {c : UInt8} {out : List (Nat × List UInt8)} {fr q i : Nat} (h : S.drop i = quote w c ++ 32 :: r) :
    fin S (escOf c) ⟨out, 0, fr, q, i⟩ = fin S (escOf c) ⟨out ++ [(i, quote w c)], 0, 0, 0, i + (quote w c).length + 1⟩ := by
  have he := escOf_cases c
  have hcut : cut S i (i + (quote w c).length) = quote w c := by unfold cut; rw [h, Nat.add_sub_cancel_left]; simp
  have hd := drop_add_app h
  obtain ⟨l1, l2, _⟩ := getD_drop hd
  have tail : ∀ (q : Nat), fin S (escOf c) ⟨out, 1, i, q, i + (quote w c).length⟩ = fin S (escOf c) ⟨out ++ [(i, quote w c)], 0, 0, 0, i + (quote w c).length + 1⟩ := by
    intro q
    rw [fin_step (x := ⟨out, 1, i, q, i + (quote w c).length⟩) l1]
    unfold step
    simp only
    rw [l2, stepC_1, inWord_b (by decide), hcut]
    exact fin_fr _ _ _ _ _ _ _ _ _ (Nat.le_refl _)
  cases hb : bare w
  · have hq : quote w c = 34 :: (w.flatMap (esc1 (escOf c)) ++ [34]) := by unfold quote; rw [hb, if_neg Bool.false_ne_true]; rfl
    obtain ⟨g1, g2, g3⟩ := getD_drop (by rw [h, hq]; rfl : S.drop i = 34 :: (w.flatMap (esc1 (escOf c)) ++ [34] ++ 32 :: r))
    rw [fin_word S _ g1 (by rw [g2]; decide), fin_step (x := ⟨out, 1, i, i, i⟩) g1]
    unfold step
    simp only
    rw [g2, stepC_1, inWord_34 (by decide) (by decide) rfl]
    rw [List.append_assoc] at g3
    rw [skip_esc he w _ _ _ _ _ g3]
    obtain ⟨k1, k2, _⟩ := getD_drop (by exact drop_add_app g3 : S.drop (i + 1 + (w.flatMap (esc1 (escOf c))).length) = 34 :: (32 :: r))
    rw [fin_step (x := ⟨out, 3, i, i, i + 1 + (w.flatMap (esc1 (escOf c))).length⟩) k1]
    unfold step
    simp only
    rw [k2, stepC_3q rfl, show i + 1 + (w.flatMap (esc1 (escOf c))).length + 1 = i + (quote w c).length by rw [hq]; simp; omega]
    exact tail i
  · have hq : quote w c = w := by unfold quote; rw [hb, if_pos rfl]
    unfold bare at hb
    rw [Bool.and_eq_true] at hb
    rw [hq] at h tail
    cases w with
    | nil => simp at hb
    | cons x w =>
      obtain ⟨g1, g2, g3⟩ := getD_drop (by exact h : S.drop i = x :: (w ++ 32 :: r))
      rw [fin_word S _ g1 (by rw [g2]; exact (plain_not (by have := hb.2; rw [List.all_cons, Bool.and_eq_true] at this; exact this.1)).1), skip_bare he (x :: w) _ _ _ _ _ h hb.2, tail i, hq]
/-- Quoted texts, a blank behind each. -/
def cat (c : UInt8) (ws : List (List UInt8)) : List UInt8 := ws.flatMap fun w => quote w c ++ [32]
theorem cat_fin (c : UInt8) : ∀ (ws : List (List UInt8)) (S : List UInt8) (out : List (Nat × List UInt8)) (fr q i : Nat), S.drop i = cat c ws → i ≤ S.length →
    ∃ l, fin S (escOf c) ⟨out, 0, fr, q, i⟩ = .ok (out ++ l) ∧ l.map Prod.snd = ws.map fun w => quote w c
  | [], S, out, fr, q, i, h, hi => by
    have : i = S.length := by have := congrArg List.length h; simp [cat] at this; omega
    subst this
    exact ⟨[], by rw [fin_done (by simp)]; simp [told], rfl⟩
  | w :: ws, S, out, fr, q, i, h, hi => by
    have h' : S.drop i = quote w c ++ 32 :: cat c ws := by rw [h]; simp [cat]
    rw [quote_word h']
    have hd := getD_drop (drop_add_app h')
    obtain ⟨l, h1, h2⟩ := cat_fin c ws S (out ++ [(i, quote w c)]) 0 0 (i + (quote w c).length + 1) hd.2.2 (by have := hd.1; omega)
    exact ⟨(i, quote w c) :: l, by rw [h1]; simp, by simp [h2]⟩
theorem split_cat (c : UInt8) (ws : List (List UInt8)) : ∃ l, split (cat c ws) c = .ok l ∧ l.map Prod.snd = ws.map fun w => quote w c := by
  obtain ⟨l, h1, h2⟩ := cat_fin c ws (cat c ws) [] 0 0 0 rfl (by simp)
  exact ⟨l, h1, h2⟩
end Wrd
end Go.Proofs.YtapghojjkeegjaaDoor
