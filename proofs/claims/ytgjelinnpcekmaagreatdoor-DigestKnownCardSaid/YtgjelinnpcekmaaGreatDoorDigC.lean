/-
  The walk of stratalaw03.DigestCuts at this seat's translation.
-/
import Derived.Test.YtgjelinnpcekmaaGreatDoorCutR
import Derived.Test.YtgjelinnpcekmaaGreatDoorApT
import Derived.Test.YtgjelinnpcekmaaGreatDoorDigL
namespace Go.Proofs.YtgjelinnpcekmaaGreatDoor
open Go.RowKit Sha Plain Err

theorem own_apart {w w' : World} {B B' size size' n n' : Nat} {e e' : TypeId} {v v' : Value} {xs xs' : List Value} (h : w.ownsRow B e size v n xs) (h' : w'.ownsRow B' e' size' v' n' xs') (hB : w.heap.size ≤ B') :
    (v.ownBlock = none ∨ v.ownBlock ≠ v'.ownBlock) ∧ (v'.ownBlock = none ∨ v'.ownBlock ≠ v.ownBlock) := by
  have key : ∀ b, v.ownBlock = some b → v'.ownBlock ≠ some b := fun b hb hb' => by
    have h1 := (h.lt b hb).2
    have h2 := (h'.lt b hb').1
    omega
  constructor
  · cases hv : v.ownBlock with
    | none => exact .inl rfl
    | some b => exact .inr (fun e => key b hv e.symm)
  · cases hv : v'.ownBlock with
    | none => exact .inl rfl
    | some b => exact .inr (fun e => key b e.symm hv)
theorem own_less {w : World} {B B' size n : Nat} {e : TypeId} {v : Value} {xs : List Value} (h : w.ownsRow B e size v n xs) (hB : B' ≤ B) : w.ownsRow B' e size v n xs := by
  refine ⟨h.1, ?_⟩
  rcases h.2 with hn | ⟨g, cap, cur, rfl, hb, rest⟩
  · exact .inl hn
  · exact .inr ⟨g, cap, cur, rfl, by omega, rest⟩
theorem noPiece_cons {p s r : List UInt8} (h : NoPiece s) (he : s = enc p ++ r) (hs : s.length ≤ 16777216) : False := by
  refine h p r ?_ he
  have := congrArg List.length he
  unfold enc at this
  simp only [List.length_append, List.length_cons] at this
  exact dec_len 9 _ (by omega)
theorem digRun_ex : ∀ (f : Nat) (s : List UInt8), ∃ j, j ≤ f ∧ j ≤ s.length ∧ (∀ t, t < j → isD (s.getD t 0) = true) ∧ (j = f ∨ j = s.length ∨ isD (s.getD j 0) = false)
  | 0, s => ⟨0, by omega, by omega, fun t h => by omega, .inl rfl⟩
  | f + 1, [] => ⟨0, by omega, by simp, fun t h => by omega, .inr (.inl rfl)⟩
  | f + 1, c :: r => by
    by_cases hc : isD c = true
    · obtain ⟨j, h1, h2, h3, h4⟩ := digRun_ex f r
      refine ⟨j + 1, by omega, by simp; omega, fun t ht => ?_, ?_⟩
      · cases t with
        | zero => simpa using hc
        | succ t => simpa using h3 t (by omega)
      · rcases h4 with h4 | h4 | h4
        · exact .inl (by omega)
        · exact .inr (.inl (by simp; omega))
        · exact .inr (.inr (by simpa using h4))
    · exact ⟨0, by omega, by omega, fun t h => by omega, .inr (.inr (by simpa using hc))⟩
theorem fault_ex : ∀ (n : Nat) (s : List UInt8), s.length ≤ n → (∃ ps, s = pieces ps) ∨ ∃ ps k j, CutTo s ps k ∧ k < s.length ∧ DigRun (s.drop k) j ∧ ¬ Good1 (s.drop k) j
  | 0, s, h => .inl ⟨[], List.length_eq_zero_iff.1 (by omega)⟩
  | n + 1, s, h => by
    by_cases hs : s = []
    · exact .inl ⟨[], hs⟩
    · have hpos : 0 < s.length := List.length_pos_iff.2 hs
      obtain ⟨j, h1, h2, h3, h4⟩ := digRun_ex 10 s
      have hj : DigRun s j := ⟨h1, h2, h3, h4⟩
      by_cases hg : Good1 s j
      · obtain ⟨p, r, he, _, _⟩ := good_enc hj hg
        have hlen := congrArg List.length he
        have hp := List.length_pos_iff.2 (enc_ne_nil p)
        rw [List.length_append] at hlen
        rcases fault_ex n r (by omega) with ⟨ps, hps⟩ | ⟨ps, k, j', hc, hk, hd, hn⟩
        · exact .inl ⟨p :: ps, by rw [he, hps, pieces_cons]⟩
        · refine .inr ⟨p :: ps, (enc p).length + k, j', ?_, by omega, ?_, ?_⟩
          · constructor
            · rw [← List.drop_drop, he, List.drop_left, pieces_cons, List.append_assoc, ← hc.split]
            · rw [pieces_cons, List.length_append, ← hc.len]
          · rw [← List.drop_drop, he, List.drop_left]; exact hd
          · rw [← List.drop_drop, he, List.drop_left]; exact hn
      · exact .inr ⟨[], 0, j, CutTo.start s, hpos, by simpa using hj, by simpa using hg⟩
/-- What a call leaves: a list of texts of its own, and more. -/
def TextsPost (l : List (List UInt8)) (more : Value → Value) (w : World) (e : Ending) (w' : World) : Prop :=
  ∃ A cp, e = .returned (more (.slice A l.length cp)) ∧ w'.ownsRow w.heap.size 9 1 (.slice A l.length cp) l.length (tx l) ∧ Below w.heap.size w w'
/-- What the two Cuts leave is of one kind, whatever the text. -/
theorem cut_res (s : List UInt8) (hs : s.length ≤ 1048576) : ∃ (l : List (List UInt8)) (ev : Value) (n q : Nat), l.length ≤ 1048576 ∧
    (∀ w, Calls Tryz.prog 29 #[.string ⟨s.toArray⟩] w (TextsPost l (fun v => .tuple #[v, ev]) w)) ∧
    (∀ w, Calls Tryz.prog 37 #[.string ⟨s.toArray⟩] w (TextsPost l (fun v => .tuple #[v, .int .i64 n, .int .i64 q]) w)) ∧
    (∀ w, ErrTab w → Calls Tryz.prog 38 #[ev, .int .i64 n, .int .i64 0, .int .i64 q] w fun e w' => e = .returned (.bool true) ∧ Below w.heap.size w w') := by
  by_cases hok : ∃ ps, s = pieces ps
  · obtain ⟨ps, hps⟩ := hok
    have hll : ps.length ≤ s.length := by rw [hps]; exact length_le_pieces ps
    refine ⟨ps, .nilIface, 0, 0, by omega, fun w => ?_, fun w => ?_, fun w _ => ?_⟩
    · refine (Cut_any s (by omega) w).mono fun e w' hp => ?_
      rcases hp with ⟨l', v, rfl, h2, h3, h4⟩ | ⟨l', k, j, _, hc, hk, hj, hn, _⟩
      · obtain rfl : l' = ps := pieces_inj (by rw [← h2, ← hps])
        obtain ⟨A, cp, rfl, _⟩ := own_readsN h3
        exact ⟨A, cp, rfl, h3, h4⟩
      · exfalso
        subst hps
        obtain ⟨l2, rfl, h2⟩ := pieces_split l' ps _ hc.split
        have hne : l2 ≠ [] := by
          rintro rfl
          have := congrArg List.length h2
          rw [pieces_nil, List.length_drop, List.length_nil] at this
          omega
        exact hn (good_first (v := []) (by rw [List.append_nil]; exact h2) hne (by rw [List.length_drop]; omega) hj)
    · refine (RefCut_any s (by omega) w).mono fun e w' hp => ?_
      rcases hp with ⟨l', v, rfl, h2, h3, h4⟩ | ⟨l', k, _, hc, hk, hn, _⟩
      · obtain rfl : l' = ps := pieces_inj (by rw [← h2, ← hps])
        obtain ⟨A, cp, rfl, _⟩ := own_readsN h3
        exact ⟨A, cp, rfl, h3, h4⟩
      · exfalso
        subst hps
        obtain ⟨l2, rfl, h2⟩ := pieces_split l' ps _ hc.split
        cases l2 with
        | nil =>
          have := congrArg List.length h2
          rw [pieces_nil, List.length_drop, List.length_nil] at this
          omega
        | cons p r => rw [pieces_cons] at h2; exact noPiece_cons hn h2 (by rw [List.length_drop]; omega)
    · exact (at_nil 0 0 w).mono fun e w' ⟨h1, h2⟩ => ⟨h1, by subst h2; exact Below.refl _ _⟩
  · obtain ⟨ps, k, j, hc, hk, hj, hn⟩ := (fault_ex s.length s (Nat.le_refl _)).resolve_left hok
    · skip
      refine ⟨[], .iface 87 (.agg #[.int .i64 4, .int .i64 0, .int .i64 (k : Nat)]), 4, k, by simp, fun w => ?_, fun w => ?_, fun w hg => ?_⟩
      · refine (Cut_any s (by omega) w).mono fun e w' hp => ?_
        rcases hp with ⟨l', v, _, h2, _, _⟩ | ⟨l', k', j', rfl, hc', hk', hj', hn', hb⟩
        · exact absurd ⟨l', h2⟩ hok
        · have hkk : k' = k := by
            rcases pieces_cmp ps l' _ _ (hc.split.symm.trans hc'.split) with ⟨l2, h2, h3⟩ | ⟨l2, h2, h3⟩
            · by_cases hne : l2 = []
              · subst hne; rw [hc'.len, h2, List.append_nil, hc.len]
              · exact absurd (good_first h3 hne (by rw [List.length_drop]; omega) hj) hn
            · by_cases hne : l2 = []
              · subst hne; rw [hc.len, h2, List.append_nil, hc'.len]
              · exact absurd (good_first h3 hne (by rw [List.length_drop]; omega) hj') hn'
          subst hkk
          exact ⟨none, 0, rfl, World.ownsRow_nil _ _ _ _, hb⟩
      · refine (RefCut_any s (by omega) w).mono fun e w' hp => ?_
        rcases hp with ⟨l', v, _, h2, _, _⟩ | ⟨l', k', rfl, hc', hk', hn', hb⟩
        · exact absurd ⟨l', h2⟩ hok
        · have hkk : k' = k := by
            rcases pieces_cmp ps l' _ _ (hc.split.symm.trans hc'.split) with ⟨l2, h2, h3⟩ | ⟨l2, h2, h3⟩
            · by_cases hne : l2 = []
              · subst hne; rw [hc'.len, h2, List.append_nil, hc.len]
              · exact absurd (good_first h3 hne (by rw [List.length_drop]; omega) hj) hn
            · cases l2 with
              | nil => rw [hc.len, h2, List.append_nil, hc'.len]
              | cons p r => rw [pieces_cons, List.append_assoc] at h3; exact (noPiece_cons hn' h3 (by rw [List.length_drop]; omega)).elim
          subst hkk
          exact ⟨none, 0, rfl, World.ownsRow_nil _ _ _ _, hb⟩
      · exact at_fault 4 0 k (by omega) (by omega) w hg
theorem same_texts {A A' : Option Addr} {n c n' c' B B' : Nat} {l : List (List UInt8)} {w : World} (hr : Reads w B 1 A n (tx l)) (hr' : Reads w B' 1 A' n' (tx l)) (hB : B ≤ w.heap.size) (hB' : B' ≤ w.heap.size) (hn : n ≤ 140737488355328) (hn' : n' ≤ 140737488355328) :
    Calls Tryz.prog 39 #[.slice A n c, .slice A' n' c'] w fun e w' => e = .returned (.bool true) ∧ Below w.heap.size w w' :=
  (SameTexts_any A A' n c n' c' B B' l l w hr hr' hB hB' hn hn').mono fun _ _ ⟨h1, h2⟩ => ⟨by rw [h1, decide_eq_true rfl], h2⟩
set_option maxHeartbeats 4000000 in
set_option maxRecDepth 100000 in
theorem digestCuts_any (s : List UInt8) (w : World) (hs : s.length ≤ 1048576) (hk : KTab w) (ht : Tab10 w) (hg : ErrTab w) :
    Calls Tryz.prog 18 #[.string ⟨s.toArray⟩] w fun e w' => e = .returned (.bool true) ∧ Below w.heap.size w w' := by
  have HK := Lib.hid hk
  have HT := Lib.hid ht
  have HG := Lib.hid hg
  clear hk ht hg
  obtain ⟨l, ev, n, q, hll, hS, hR, hA⟩ := cut_res s hs
  have HS := Lib.hid hS
  have HRf := Lib.hid hR
  have HA := Lib.hid hA
  clear hS hR hA
  go_enter Tryz.func18, Tryz.ntmps18
  go_wp2_with fail
  refine (HRf.out _).mono ?_
  rintro e1 w1 ⟨A1, c1, rfl, ho1, hb1⟩
  have O1 := Lib.hid ho1
  have B1 := Lib.hid hb1
  clear ho1 hb1
  go_wp2_with fail
  refine (HS.out _).mono ?_
  rintro e2 w2 ⟨A2, c2, rfl, ho2, hb2⟩
  have O2 := Lib.hid ho2
  have S2 := Lib.hid hb2
  have B2 := Lib.hid (B1.out.trans (hb2.mono B1.out.size))
  clear ho2 hb2
  go_wp2_with fail
  refine (HS.out _).mono ?_
  rintro e3 w3 ⟨A3, c3, rfl, ho3, hb3⟩
  have O3 := Lib.hid ho3
  have S3 := Lib.hid hb3
  have B3 := Lib.hid (B2.out.trans (hb3.mono B2.out.size))
  clear ho3 hb3
  have AP := Lib.hid (own_apart O2.out O3.out (Nat.le_refl _))
  have P1 := Lib.hid (own_kept (own_kept O1.out S2.out) S3.out)
  have P2 := Lib.hid (own_less (own_kept O2.out S3.out) B1.out.size)
  have P3 := Lib.hid (own_less O3.out B2.out.size)
  clear O1 O2 O3 S2 S3 B1 B2
  have T3 := Lib.hid (Below.refl w3.heap.size w3)
  go_wp2_with fail
  refine (HA.out _ (errTab_below HG.out B3.out (errTab_lt HG.out))).mono ?_
  rintro e4 w4 ⟨rfl, hb4⟩
  have T4 := Lib.hid (T3.out.trans (hb4.mono T3.out.size))
  clear hb4 T3
  go_wp2_with fail
  refine (HA.out _ (errTab_below HG.out (B3.out.trans (T4.out.mono B3.out.size)) (errTab_lt HG.out))).mono ?_
  rintro e5 w5 ⟨rfl, hb5⟩
  have T5 := Lib.hid (T4.out.trans (hb5.mono T4.out.size))
  clear hb5 T4
  go_wp2_with fail
  refine (same_texts (Reads.of_own (own_kept P2.out T5.out)) (Reads.of_own (own_kept P1.out T5.out)) (Nat.le_refl _) (Nat.le_refl _) (by omega) (by omega)).mono ?_
  rintro e6 w6 ⟨rfl, hb6⟩
  have T6 := Lib.hid (T5.out.trans (hb6.mono T5.out.size))
  clear hb6 T5
  go_wp2_with fail
  refine (same_texts (Reads.of_own (own_kept P3.out T6.out)) (Reads.of_own (own_kept P1.out T6.out)) (Nat.le_refl _) (Nat.le_refl _) (by omega) (by omega)).mono ?_
  rintro e7 w7 ⟨rfl, hb7⟩
  have T7 := Lib.hid (T6.out.trans (hb7.mono T6.out.size))
  clear hb7 T6
  go_wp2_with fail
  have hbX := T7.out.alloc T7.out.size (.cells #[.slice A2 l.length c2, .slice A3 l.length c3] 29)
  have hBW := B3.out.trans (hbX.mono B3.out.size)
  have HBW := Lib.hid hBW
  refine (apartTexts_any _ w.heap.size w7.heap.size 2 #[.slice A2 l.length c2, .slice A3 l.length c3]
    (fun i => match i with | 0 => .slice A2 l.length c2 | _ => .slice A3 l.length c3) (fun _ => l.length) (fun _ => tx l)
    (heap_alloc_new _ _) (fun i hi => by match i, hi with | 0, _ => rfl | 1, _ => rfl) ⟨fun i hi => ?_, fun i j hi hj hij => ?_⟩ hBW.size (by omega) (fun i hi => by show l.length ≤ _; omega)).mono ?_
  · match i, hi with
    | 0, _ => exact own_kept P2.out hbX
    | 1, _ => exact own_kept P3.out hbX
  · match i, j, hi, hj, hij with
    | 0, 1, _, _, _ => exact AP.out.1
    | 1, 0, _, _, _ => exact AP.out.2
    | 0, 0, _, _, h => exact absurd rfl h
    | 1, 1, _, _, h => exact absurd rfl h
  rintro e8 w8 ⟨rfl, hb⟩
  have B8 := Lib.hid (HBW.out.trans hb)
  clear hb hbX hBW
  go_wp2_with fail
  refine (works_any _ (HK.out.below B8.out) (HT.out.below B8.out HT.out.lt)).mono ?_
  rintro e9 w9 ⟨rfl, hb⟩
  have B9 := Lib.hid (B8.out.trans (hb.mono B8.out.size))
  clear hb
  go_wp2
  go_ret
  exact ⟨rfl, B9.out⟩
end Go.Proofs.YtgjelinnpcekmaaGreatDoor
