/-
  Plain laws about expanding a text: one text behind another; what is quoted; what holds none of the bytes that are looked at; what a text hangs on. No program in sight.
-/
import Derived.Test.YtnmnhnhlggbijaaDoorExpP
namespace Go.Proofs.YtnmnhnhlggbijaaDoor
namespace Exp
open T

/-! ### One text behind another -/
def okLast (e c : UInt8) : Prop := c ≠ e ∧ c ≠ 36 ∧ letter c = false ∧ digit c = false
/-- A text that ends with no escape, $, letter, digit or _. -/
def Fine (e : UInt8) (s : List UInt8) : Prop := ∀ u c, s = u ++ [c] → okLast e c
theorem Fine.suffix {e : UInt8} {x s : List UInt8} (h : Fine e (x ++ s)) : Fine e s := fun u c hu => h (x ++ u) c (by rw [hu, List.append_assoc])
theorem Fine.tail {e c : UInt8} {s : List UInt8} (h : Fine e (c :: s)) : Fine e s := Fine.suffix (x := [c]) h
theorem Fine.one {e c : UInt8} (h : Fine e [c]) : okLast e c := h [] c rfl
theorem nl_app {e : UInt8} (b : List UInt8) : ∀ (k : Nat) (r : List UInt8), r ≠ [] → Fine e r → nl k (r ++ b) = nl k r ∧ nl k r < r.length
  | _, [], h, _ => absurd rfl h
  | k, [c], _, hf => by
    obtain ⟨_, _, h3, h4⟩ := hf.one
    simp [nl, h3, h4]
  | k, c :: d :: r, _, hf => by
    obtain ⟨h1, h2⟩ := nl_app (e := e) b (k + 1) (d :: r) (by simp) hf.tail
    by_cases hc : (letter c || (decide (k > 0) && digit c)) = true
    · constructor
      · rw [List.cons_append, nl, nl, if_pos hc, if_pos hc, h1]
      · rw [nl, if_pos hc, List.length_cons]; omega
    · constructor
      · rw [List.cons_append, nl, nl, if_neg hc, if_neg hc]
      · rw [nl, if_neg hc]; simp
theorem name_app {e : UInt8} {r : List UInt8} (b : List UInt8) (h : r ≠ []) (hf : Fine e r) : name (r ++ b) = name r := by
  obtain ⟨h1, h2⟩ := nl_app b 0 r h hf
  unfold name
  rw [h1, List.take_append_of_le_length (by omega)]
def Cls.appd (b : List UInt8) : Cls → Cls
  | .fin (.ok t r) => .fin (.ok t (r ++ b))
  | .fin (.err e) => .fin (.err e)
  | .lit p r => .lit p (r ++ b)
  | .quo r => .quo (r ++ b)
  | .var n o r => .var n o (r ++ b)
def NoErr (c : Cls) : Prop := ∀ no, c ≠ .fin (.err no)
theorem clsEnd_app (n s b : List UInt8) (h : NoErr (clsEnd n s)) : clsEnd n (s ++ b) = (clsEnd n s).appd b := by
  cases s with
  | nil => exact absurd rfl (h 4)
  | cons c r =>
    unfold NoErr at h
    rw [List.cons_append]
    simp only [clsEnd] at h ⊢
    by_cases h1 : c = 125
    · simp only [if_pos h1, Cls.appd]
    · by_cases h2 : c = 58
      · simp only [if_neg h1, if_pos h2] at h ⊢
        cases r with
        | nil => exact absurd rfl (h 4)
        | cons o r' =>
          simp only [List.cons_append] at h ⊢
          by_cases h3 : o = 45 ∨ o = 43
          · simp only [if_pos h3, Cls.appd]
          · simp only [if_neg h3] at h; exact absurd rfl (h 4)
      · simp only [if_neg h1, if_neg h2] at h; exact absurd rfl (h 4)
theorem clsBr_app {e : UInt8} (q b : List UInt8) (hf : Fine e q) (h : NoErr (clsBr q)) : clsBr (q ++ b) = (clsBr q).appd b := by
  by_cases hq : q = []
  · subst hq; exact absurd rfl (h 4)
  · obtain ⟨h1, h2⟩ := nl_app b 0 q hq hf
    unfold NoErr at h
    unfold clsBr at h ⊢
    rw [h1, name_app b hq hf]
    by_cases h0 : nl 0 q = 0
    · rw [if_pos h0] at h; exact absurd rfl (h 4)
    · rw [if_neg h0] at h ⊢
      rw [if_neg h0, List.drop_append_of_le_length (by omega)]
      exact clsEnd_app _ _ _ h
theorem clsVar_app {e : UInt8} (r b : List UInt8) (hr : r ≠ []) (hf : Fine e r) (h : NoErr (clsVar r)) : clsVar (r ++ b) = (clsVar r).appd b := by
  obtain ⟨h1, h2⟩ := nl_app b 0 r hr hf
  unfold NoErr at h
  unfold clsVar at h ⊢
  rw [h1, name_app b hr hf]
  by_cases h0 : nl 0 r ≠ 0
  · rw [if_pos h0, if_pos h0, List.drop_append_of_le_length (by omega)]; rfl
  · rw [if_neg h0] at h
    rw [if_neg h0, if_neg h0]
    cases r with
    | nil => exact absurd rfl hr
    | cons c q =>
      simp only [List.cons_append] at h ⊢
      by_cases h3 : c = 123
      · simp only [if_pos h3] at h ⊢
        exact clsBr_app q b hf.tail h
      · simp only [if_neg h3, Cls.appd, List.cons_append]
theorem q39_app (b : List UInt8) : ∀ r : List UInt8, q39 r ≠ r.length → q39 (r ++ b) = q39 r ∧ q39 r < r.length
  | [], h => absurd rfl h
  | c :: r, h => by
    by_cases hc : c = 39
    · simp [q39, hc]
    · simp only [q39, if_neg hc, List.length_cons, List.cons_append] at h ⊢
      obtain ⟨h1, h2⟩ := q39_app b r (by omega)
      omega
theorem clsQ_app (r b : List UInt8) (h : NoErr (clsQ r)) : clsQ (r ++ b) = (clsQ r).appd b := by
  unfold NoErr at h
  unfold clsQ at h ⊢
  by_cases h0 : q39 r = r.length
  · rw [if_pos h0] at h; exact absurd rfl (h 18)
  · obtain ⟨h1, h2⟩ := q39_app b r h0
    rw [if_neg h0, h1, if_neg (by rw [List.length_append]; omega), List.take_append_of_le_length (by omega), List.drop_append_of_le_length (by omega)]
    rfl
theorem cls_app {e : UInt8} {k : K} {s : List UInt8} (b : List UInt8) (hs : s ≠ []) (hf : Fine e s) (h : NoErr (cls e k s)) : cls e k (s ++ b) = (cls e k s).appd b := by
  cases s with
  | nil => exact absurd rfl hs
  | cons c r =>
    unfold NoErr at h
    rw [List.cons_append]
    simp only [cls, clsC] at h ⊢
    by_cases h1 : c = e
    · simp only [if_pos h1] at h ⊢
      cases r with
      | nil => exact absurd h1 (hf.one).1
      | cons d r' =>
        simp only [List.cons_append]
        by_cases h2 : esc1 e k d = true
        · simp only [if_pos h2, Cls.appd]
        · simp only [if_neg h2, Cls.appd, List.cons_append]
    · simp only [if_neg h1] at h ⊢
      by_cases h2 : c = 36
      · simp only [if_pos h2] at h ⊢
        have hr : r ≠ [] := by rintro rfl; exact (hf.one).2.1 h2
        exact clsVar_app r b hr hf.tail h
      · simp only [if_neg h2] at h ⊢
        by_cases h3 : (k = .quoted ∧ c = 34) ∨ (k = .braces ∧ c = 125)
        · simp only [if_pos h3, Cls.appd]
        · simp only [if_neg h3] at h ⊢
          by_cases h4 : k = .quoted ∨ k = .doc ∨ (c ≠ 34 ∧ c ≠ 39)
          · simp only [if_pos h4, Cls.appd]
          · simp only [if_neg h4] at h ⊢
            by_cases h5 : c = 34
            · simp only [if_pos h5, Cls.appd]
            · simp only [if_neg h5] at h ⊢
              exact clsQ_app r b h
/-- What is left is an end of the text. -/
def Cls.Suf (s : List UInt8) : Cls → Prop
  | .fin (.ok _ r) => ∃ x, s = x ++ r
  | .fin (.err _) => True
  | .lit _ r => ∃ x, s = x ++ r
  | .quo r => ∃ x, s = x ++ r
  | .var _ _ r => ∃ x, s = x ++ r
theorem Cls.Suf.more {s : List UInt8} {c : Cls} (x : List UInt8) (h : c.Suf s) : c.Suf (x ++ s) := by
  cases c with
  | fin o =>
    cases o with
    | ok t r => obtain ⟨y, rfl⟩ := h; exact ⟨x ++ y, by rw [List.append_assoc]⟩
    | err e => trivial
  | lit p r => obtain ⟨y, rfl⟩ := h; exact ⟨x ++ y, by rw [List.append_assoc]⟩
  | quo r => obtain ⟨y, rfl⟩ := h; exact ⟨x ++ y, by rw [List.append_assoc]⟩
  | var n o r => obtain ⟨y, rfl⟩ := h; exact ⟨x ++ y, by rw [List.append_assoc]⟩
theorem clsEnd_suf (n s : List UInt8) : (clsEnd n s).Suf s := by
  cases s with
  | nil => trivial
  | cons c r =>
    simp only [clsEnd]
    split
    · exact ⟨[c], rfl⟩
    · split
      · cases r with
        | nil => trivial
        | cons o r' => simp only; split; exact ⟨[c, o], rfl⟩; trivial
      · trivial
theorem clsVar_suf (s : List UInt8) : (clsVar s).Suf s := by
  unfold clsVar
  split
  · exact ⟨s.take (nl 0 s), (List.take_append_drop _ _).symm⟩
  · cases s with
    | nil => exact ⟨[], rfl⟩
    | cons c q =>
      simp only
      split
      · refine Cls.Suf.more [c] ?_
        unfold clsBr
        split
        · trivial
        · have := Cls.Suf.more (q.take (nl 0 q)) (clsEnd_suf (name q) (q.drop (nl 0 q)))
          rwa [List.take_append_drop] at this
      · exact ⟨[], rfl⟩
theorem cls_suf (e : UInt8) (k : K) (s : List UInt8) : (cls e k s).Suf s := by
  cases s with
  | nil => cases k <;> first | exact ⟨[], rfl⟩ | trivial
  | cons c r =>
    simp only [cls, clsC]
    split
    · cases r with
      | nil => exact ⟨[c], rfl⟩
      | cons d r' => simp only; split; exact ⟨[c, d], rfl⟩; exact ⟨[c], rfl⟩
    · split
      · exact Cls.Suf.more [c] (clsVar_suf r)
      · split
        · exact ⟨[c], rfl⟩
        · split
          · exact ⟨[c], rfl⟩
          · split
            · exact ⟨[c], rfl⟩
            · refine Cls.Suf.more [c] ?_
              unfold clsQ
              split
              · trivial
              · exact ⟨r.take (q39 r + 1), (List.take_append_drop _ _).symm⟩
theorem Rd.suf {e : UInt8} {k : K} {s : List UInt8} {o : Out} (h : Rd e k s o) : ∀ t r, o = .ok t r → ∃ x, s = x ++ r := by
  induction h with
  | @fin k s o hc => intro t r ho; subst ho; have h2 := cls_suf e k s; rw [hc] at h2; exact h2
  | @lit k s p r o hc _ ih =>
    intro t r' ho
    have h2 := cls_suf e k s; rw [hc] at h2
    cases o with
    | err => cases ho
    | ok t' r'' => cases ho; obtain ⟨x, hx⟩ := h2; obtain ⟨y, hy⟩ := ih _ _ rfl; exact ⟨x ++ y, by rw [hx, hy, List.append_assoc]⟩
  | @quo k s r t1 r1 o hc _ _ ih1 ih =>
    intro t r' ho
    have h2 := cls_suf e k s; rw [hc] at h2
    cases o with
    | err => cases ho
    | ok t' r'' => cases ho; obtain ⟨x, hx⟩ := h2; obtain ⟨y, hy⟩ := ih1 _ _ rfl; obtain ⟨z, hz⟩ := ih _ _ rfl; exact ⟨x ++ y ++ z, by rw [hx, hy, hz]; simp⟩
  | quoE => intro t r ho; cases ho
  | @var k s n q r t1 r1 o hc _ _ ih1 ih =>
    intro t r' ho
    have h2 := cls_suf e k s; rw [hc] at h2
    cases o with
    | err => cases ho
    | ok t' r'' => cases ho; obtain ⟨x, hx⟩ := h2; obtain ⟨y, hy⟩ := ih1 _ _ rfl; obtain ⟨z, hz⟩ := ih _ _ rfl; exact ⟨x ++ y ++ z, by rw [hx, hy, hz]; simp⟩
  | varE => intro t r ho; cases ho
theorem cls_ne {e : UInt8} {k : K} {s : List UInt8} (h : ∀ o, cls e k s ≠ .fin o) : s ≠ [] := by rintro rfl; exact h _ rfl
/-- Within quotes or braces: what stands behind the end makes no odds. -/
theorem Rd.closed {e : UInt8} {k : K} {s : List UInt8} {o : Out} (b : List UInt8) (h : Rd e k s o) : ∀ t r, o = .ok t r → (k = .quoted ∨ k = .braces) → Fine e s → Rd e k (s ++ b) (.ok t (r ++ b)) := by
  induction h with
  | @fin k s o hc =>
    intro t r ho hk hf
    subst ho
    have hs : s ≠ [] := by rintro rfl; rcases hk with rfl | rfl <;> cases hc
    have h2 := cls_app b hs hf (by intro no; rw [hc]; simp)
    rw [hc] at h2
    exact .fin h2
  | @lit k s p r o hc _ ih =>
    intro t r' ho hk hf
    cases o with
    | err => cases ho
    | ok t' r'' =>
      cases ho
      have hs : s ≠ [] := cls_ne (by intro o; rw [hc]; simp)
      have h2 := cls_app b hs hf (by intro no; rw [hc]; simp)
      obtain ⟨x, hx⟩ : ∃ x, s = x ++ r := by have := cls_suf e k s; rw [hc] at this; exact this
      rw [hc] at h2
      exact .lit h2 (ih _ _ rfl hk (by rw [hx] at hf; exact hf.suffix))
  | @quo k s r t1 r1 o hc h1 _ ih1 ih =>
    intro t r' ho hk hf
    cases o with
    | err => cases ho
    | ok t' r'' =>
      cases ho
      have hs : s ≠ [] := cls_ne (by intro o; rw [hc]; simp)
      have h2 := cls_app b hs hf (by intro no; rw [hc]; simp)
      obtain ⟨x, hx⟩ : ∃ x, s = x ++ r := by have := cls_suf e k s; rw [hc] at this; exact this
      obtain ⟨y, hy⟩ := h1.suf _ _ rfl
      have hfr : Fine e r := by rw [hx] at hf; exact hf.suffix
      rw [hc] at h2
      exact .quo h2 (ih1 _ _ rfl (.inl rfl) hfr) (ih _ _ rfl hk (by rw [hy] at hfr; exact hfr.suffix))
  | quoE => intro t r ho; cases ho
  | @var k s n q r t1 r1 o hc h1 _ ih1 ih =>
    intro t r' ho hk hf
    cases o with
    | err => cases ho
    | ok t' r'' =>
      cases ho
      have hs : s ≠ [] := cls_ne (by intro o; rw [hc]; simp)
      have h2 := cls_app b hs hf (by intro no; rw [hc]; simp)
      obtain ⟨x, hx⟩ : ∃ x, s = x ++ r := by have := cls_suf e k s; rw [hc] at this; exact this
      obtain ⟨y, hy⟩ := h1.suf _ _ rfl
      have hfr : Fine e r := by rw [hx] at hf; exact hf.suffix
      rw [hc] at h2
      exact .var h2 (ih1 _ _ rfl (.inr rfl) hfr) (ih _ _ rfl hk (by rw [hy] at hfr; exact hfr.suffix))
  | varE => intro t r ho; cases ho
/-- Two texts, one behind the other. -/
theorem Rd.join {e : UInt8} {k : K} {s : List UInt8} {o : Out} (b : List UInt8) {o2 : Out} (h : Rd e k s o) : ∀ t r, o = .ok t r → (k = .plain ∨ k = .doc) → Fine e s → Rd e k b o2 → Rd e k (s ++ b) (o2.pre t) := by
  induction h with
  | @fin k s o hc =>
    intro t r ho hk hf hb
    subst ho
    by_cases hs : s = []
    · subst hs
      have : t = .nil := by rcases hk with rfl | rfl <;> (cases hc; rfl)
      subst this
      rw [Out.pre_nil]
      exact hb
    · exfalso
      cases s with
      | nil => exact hs rfl
      | cons c r =>
        have key : ∀ c r t r', clsC e k c r ≠ .fin (.ok t r') := by
          intro c r t r' hx
          unfold clsC at hx
          have hn : ∀ q, clsVar q ≠ .fin (.ok t r') := by
            intro q hq
            unfold clsVar at hq
            split at hq
            · cases hq
            · cases q with
              | nil => cases hq
              | cons c q =>
                simp only at hq
                split at hq
                · unfold clsBr at hq
                  split at hq
                  · cases hq
                  · cases hd : q.drop (nl 0 q) with
                    | nil => rw [hd] at hq; cases hq
                    | cons c2 r2 =>
                      rw [hd] at hq
                      simp only [clsEnd] at hq
                      split at hq
                      · cases hq
                      · split at hq
                        · cases r2 with
                          | nil => cases hq
                          | cons o r3 => simp only at hq; split at hq <;> cases hq
                        · cases hq
                · cases hq
          split at hx
          · cases r with
            | nil => cases hx
            | cons d r' => simp only at hx; split at hx <;> cases hx
          · split at hx
            · exact hn _ hx
            · split at hx
              · rename_i h3; rcases hk with rfl | rfl <;> simp at h3
              · split at hx
                · cases hx
                · split at hx
                  · cases hx
                  · unfold clsQ at hx; split at hx <;> cases hx
        exact key c r t _ hc
  | @lit k s p r o hc _ ih =>
    intro t r' ho hk hf hb
    cases o with
    | err => cases ho
    | ok t' r'' =>
      cases ho
      have hs : s ≠ [] := cls_ne (by intro o; rw [hc]; simp)
      have h2 := cls_app b hs hf (by intro no; rw [hc]; simp)
      obtain ⟨x, hx⟩ : ∃ x, s = x ++ r := by have := cls_suf e k s; rw [hc] at this; exact this
      rw [hc] at h2
      rw [← Out.pre_pre]
      exact .lit h2 (ih _ _ rfl hk (by rw [hx] at hf; exact hf.suffix) hb)
  | @quo k s r t1 r1 o hc h1 _ ih1 ih =>
    intro t r' ho hk hf hb
    cases o with
    | err => cases ho
    | ok t' r'' =>
      cases ho
      have hs : s ≠ [] := cls_ne (by intro o; rw [hc]; simp)
      have h2 := cls_app b hs hf (by intro no; rw [hc]; simp)
      obtain ⟨x, hx⟩ : ∃ x, s = x ++ r := by have := cls_suf e k s; rw [hc] at this; exact this
      obtain ⟨y, hy⟩ := h1.suf _ _ rfl
      have hfr : Fine e r := by rw [hx] at hf; exact hf.suffix
      rw [hc] at h2
      rw [← Out.pre_pre]
      exact .quo h2 (h1.closed b _ _ rfl (.inl rfl) hfr) (ih _ _ rfl hk (by rw [hy] at hfr; exact hfr.suffix) hb)
  | quoE => intro t r ho; cases ho
  | @var k s n q r t1 r1 o hc h1 _ ih1 ih =>
    intro t r' ho hk hf hb
    cases o with
    | err => cases ho
    | ok t' r'' =>
      cases ho
      have hs : s ≠ [] := cls_ne (by intro o; rw [hc]; simp)
      have h2 := cls_app b hs hf (by intro no; rw [hc]; simp)
      obtain ⟨x, hx⟩ : ∃ x, s = x ++ r := by have := cls_suf e k s; rw [hc] at this; exact this
      obtain ⟨y, hy⟩ := h1.suf _ _ rfl
      have hfr : Fine e r := by rw [hx] at hf; exact hf.suffix
      rw [hc] at h2
      rw [← Out.pre_pre]
      exact .var h2 (h1.closed b _ _ rfl (.inr rfl) hfr) (ih _ _ rfl hk (by rw [hy] at hfr; exact hfr.suffix) hb)
  | varE => intro t r ho; cases ho

/-! ### What holds none of the bytes that are looked at; what is quoted -/
theorem rd_plain {e : UInt8} : ∀ s : List UInt8, (∀ c ∈ s, c ≠ e ∧ c ≠ 36 ∧ c ≠ 34 ∧ c ≠ 39) → Rd e .plain s (.ok (lits s .nil) [])
  | [], _ => .fin rfl
  | c :: r, h => by
    obtain ⟨h1, h2, h3, h4⟩ := h c (by simp)
    have := Rd.lit (e := e) (k := .plain) (s := c :: r) (p := .lit [c] .nil) (r := r) (by simp [cls, clsC, h1, h2, h3, h4]) (rd_plain r (fun x hx => h x (by simp [hx])))
    exact this
theorem rd_doc {e : UInt8} : ∀ s : List UInt8, (∀ c ∈ s, c ≠ e ∧ c ≠ 36) → Rd e .doc s (.ok (lits s .nil) [])
  | [], _ => .fin rfl
  | c :: r, h => by
    obtain ⟨h1, h2⟩ := h c (by simp)
    have := Rd.lit (e := e) (k := .doc) (s := c :: r) (p := .lit [c] .nil) (r := r) (by simp [cls, clsC, h1, h2]) (rd_doc r (fun x hx => h x (by simp [hx])))
    exact this
def qesc (e c : UInt8) : List UInt8 := if c = 34 ∨ c = 36 ∨ c = e then [e, c] else [c]
theorem rd_quoted {e : UInt8} (he : e ≠ 34) : ∀ s : List UInt8, Rd e .quoted (s.flatMap (qesc e) ++ [34]) (.ok (lits s .nil) [])
  | [] => .fin (by simp [cls, clsC, Ne.symm he, lits])
  | c :: r => by
    rw [List.flatMap_cons, List.append_assoc]
    by_cases hc : c = 34 ∨ c = 36 ∨ c = e
    · have : qesc e c = [e, c] := by unfold qesc; rw [if_pos hc]
      rw [this]
      exact Rd.lit (p := .lit [c] .nil) (r := r.flatMap (qesc e) ++ [34]) (by
        have : esc1 e .quoted c = true := by simpa [esc1, or_assoc] using hc
        simp [cls, clsC, this]) (rd_quoted he r)
    · have : qesc e c = [c] := by unfold qesc; rw [if_neg hc]
      rw [this]
      simp only [not_or] at hc
      exact Rd.lit (p := .lit [c] .nil) (r := r.flatMap (qesc e) ++ [34]) (by simp [cls, clsC, hc]) (rd_quoted he r)
theorem rd_inquotes {e : UInt8} (he : e ≠ 34) (s : List UInt8) : Rd e .plain (34 :: (s.flatMap (qesc e) ++ [34])) (.ok (lits s .nil) []) := by
  have := Rd.quo (e := e) (k := .plain) (s := 34 :: (s.flatMap (qesc e) ++ [34])) (by simp [cls, clsC, Ne.symm he]) (rd_quoted he s) (.fin (o := .ok .nil []) rfl)
  simpa [Out.pre, app_nil] using this

/-! ### What a text hangs on -/
theorem val_congr {f g : List UInt8 → List UInt8} : ∀ t : T, (∀ n ∈ t.nms, f n = g n) → t.val f = t.val g
  | .nil, _ => rfl
  | .lit s r, h => by rw [val, val, val_congr r h]
  | .var n o i r, h => by
    rw [val, val, h n (by simp [nms]), val_congr i (fun m hm => h m (by simp [nms, hm])), val_congr r (fun m hm => h m (by simp [nms, hm]))]
theorem mem_met {acc : List (List UInt8)} {n m : List UInt8} : m ∈ met acc n ↔ m ∈ acc ∨ m = n := by
  unfold met
  split
  · rename_i h; constructor
    · exact .inl
    · rintro (h1 | rfl); exact h1; exact h
  · simp
theorem mem_mets {m : List UInt8} : ∀ (l acc : List (List UInt8)), m ∈ mets acc l ↔ m ∈ acc ∨ m ∈ l
  | [], acc => by simp [mets]
  | n :: l, acc => by
    have := mem_mets (m := m) l (met acc n)
    unfold mets at this ⊢
    rw [List.foldl_cons, this, mem_met, List.mem_cons, or_assoc]
def valFrom (v : List UInt8) (l : List (List UInt8 × List UInt8)) (n : List UInt8) : List UInt8 := l.foldl (fun v p => if p.1 = n then p.2 else v) v
theorem valFrom_none {n : List UInt8} : ∀ (l : List (List UInt8 × List UInt8)) (v : List UInt8), (∀ p ∈ l, p.1 ≠ n) → valFrom v l n = v
  | [], _, _ => rfl
  | p :: l, v, h => by
    unfold valFrom
    rw [List.foldl_cons, if_neg (h p (by simp))]
    exact valFrom_none l v (fun q hq => h q (by simp [hq]))
theorem valFrom_own {F : List UInt8 → List UInt8} {n : List UInt8} : ∀ (l : List (List UInt8)) (v : List UInt8), n ∈ l → valFrom v (l.map fun m => (m, F m)) n = F n
  | [], _, h => by cases h
  | m :: l, v, h => by
    have hu : valFrom v ((m :: l).map fun m => (m, F m)) n = valFrom (if m = n then F m else v) (l.map fun m => (m, F m)) n := by unfold valFrom; rw [List.map_cons, List.foldl_cons]
    rw [hu]
    by_cases hl : n ∈ l
    · exact valFrom_own l _ hl
    · rw [valFrom_none _ _ (by
        intro p hp; obtain ⟨q, hq, rfl⟩ := List.mem_map.1 hp; rintro rfl; exact hl hq)]
      rcases List.mem_cons.1 h with rfl | h
      · rw [if_pos rfl]
      · exact absurd h hl
theorem valOf_own {vars other : List (List UInt8 × List UInt8)} {l : List (List UInt8)} {n : List UInt8} (h : n ∈ l) : valOf (other ++ l.map fun m => (m, valOf vars m)) n = valOf vars n := by
  show valFrom [] (other ++ _) n = _
  unfold valFrom
  rw [List.foldl_append]
  exact valFrom_own (F := valOf vars) l _ h
end Exp
end Go.Proofs.YtnmnhnhlggbijaaDoor
