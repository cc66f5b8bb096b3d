/-
  The walk of stratalaw13.WordsSplits at this seat's translation.
-/
import Derived.Test.YtapghojjkeegjaaDoorWrdR
import Derived.Test.YtapghojjkeegjaaDoorWrdK
import Derived.Test.YtapghojjkeegjaaDoorWrdC
import Derived.Test.YtapghojjkeegjaaDoorApW
namespace Go.Proofs.YtapghojjkeegjaaDoor
open Go.RowKit Wrd Err

theorem own_apart {w w' : World} {B B' size size' n n' : Nat} {e e' : TypeId} {v v' : Value} {xs xs' : List Value} (h : w.ownsRow B e size v n xs) (h' : w'.ownsRow B' e' size' v' n' xs') (hB : w.heap.size ≤ B') :
    (v.ownBlock = none ∨ v.ownBlock ≠ v'.ownBlock) ∧ (v'.ownBlock = none ∨ v'.ownBlock ≠ v.ownBlock) := by
  have key : ∀ b, v.ownBlock = some b → v'.ownBlock ≠ some b := fun b hb hb' => by
    have h1 := (h.lt b hb).2
    have h2 := (h'.lt b hb').1
    omega
  constructor
  · cases hv : v.ownBlock with
    | none => exact .inl rfl
    | some b => exact .inr (fun e => key b hv e.symm)
  · cases hv : v'.ownBlock with
    | none => exact .inl rfl
    | some b => exact .inr (fun e => key b e.symm hv)
theorem own_less {w : World} {B B' size n : Nat} {e : TypeId} {v : Value} {xs : List Value} (h : w.ownsRow B e size v n xs) (hB : B' ≤ B) : w.ownsRow B' e size v n xs := by
  refine ⟨h.1, ?_⟩
  rcases h.2 with hn | ⟨g, cap, cur, rfl, hb, rest⟩
  · exact .inl hn
  · exact .inr ⟨g, cap, cur, rfl, by omega, rest⟩

/-- What a call leaves: a list of words of its own, and more. -/
def ListPost (l : List (Nat × List UInt8)) (more : Value → Value) (w : World) (e : Ending) (w' : World) : Prop :=
  ∃ A cp, e = .returned (more (.slice A l.length cp)) ∧ w'.ownsRow w.heap.size 41 2 (.slice A l.length cp) l.length (wd l) ∧ Below w.heap.size w w'
theorem split_res (s : List UInt8) (hs : s.length ≤ 1048576) (c : UInt8) : ∃ (l : List (Nat × List UInt8)) (ev : Value) (n q : Nat), l.length ≤ 1048576 ∧
    (∀ w, Calls Tryd.prog 10 #[.string ⟨s.toArray⟩, .int .u8 c.toNat] w (ListPost l (fun v => .tuple #[v, ev]) w)) ∧
    (∀ w, Calls Tryd.prog 9 #[.string ⟨s.toArray⟩, .int .u8 c.toNat] w (ListPost l (fun v => .tuple #[v, .int .i64 n, .int .i64 q]) w)) ∧
    (∀ w, ErrTab w → Calls Tryd.prog 11 #[ev, .int .i64 n, .int .i64 0, .int .i64 q] w fun e w' => e = .returned (.bool true) ∧ Below w.heap.size w w') := by
  have hcv := split_covered s c
  cases hsp : split s c with
  | ok l =>
    rw [hsp] at hcv
    have hl := covered_len hcv
    refine ⟨l, .nilIface, 0, 0, by omega, fun w => ?_, fun w => ?_, fun w _ => ?_⟩
    · refine (Split_any s (by omega) c w).mono fun e w' hp => ?_
      rcases hp with ⟨l', v, h1, rfl, h3, h4⟩ | ⟨q, h1, _, _⟩
      · rw [hsp] at h1; cases h1
        obtain ⟨A, cp, rfl, _⟩ := own_readsN h3
        exact ⟨A, cp, rfl, h3, h4⟩
      · rw [hsp] at h1; cases h1
    · refine (RefSplit_any s (by omega) c w).mono fun e w' hp => ?_
      rcases hp with ⟨l', v, h1, rfl, h3, h4⟩ | ⟨q, h1, _, _⟩
      · rw [hsp] at h1; cases h1
        obtain ⟨A, cp, rfl, _⟩ := own_readsN h3
        exact ⟨A, cp, rfl, h3, h4⟩
      · rw [hsp] at h1; cases h1
    · exact (at_nil 0 0 w).mono fun e w' ⟨h1, h2⟩ => ⟨h1, by subst h2; exact Below.refl _ _⟩
  | error q =>
    refine ⟨[], .iface 57 (.agg #[.int .i64 18, .int .i64 0, .int .i64 (q : Nat)]), 18, q, by simp, fun w => ?_, fun w => ?_, fun w hg => ?_⟩
    · refine (Split_any s (by omega) c w).mono fun e w' hp => ?_
      rcases hp with ⟨l', v, h1, _, _, _⟩ | ⟨q', h1, rfl, h4⟩
      · rw [hsp] at h1; cases h1
      · rw [hsp] at h1; cases h1
        exact ⟨none, 0, rfl, World.ownsRow_nil _ _ _ _, h4⟩
    · refine (RefSplit_any s (by omega) c w).mono fun e w' hp => ?_
      rcases hp with ⟨l', v, h1, _, _, _⟩ | ⟨q', h1, rfl, h4⟩
      · rw [hsp] at h1; cases h1
      · rw [hsp] at h1; cases h1
        exact ⟨none, 0, rfl, World.ownsRow_nil _ _ _ _, h4⟩
    · exact at_fault 18 0 q (by omega) (by omega) w hg

set_option maxHeartbeats 4000000 in
set_option maxRecDepth 100000 in
theorem wordsSplits_any (s : List UInt8) (hs : s.length ≤ 1048576) (c : UInt8) (t : List UInt8) (ht : t.length ≤ 1048576) (w : World) (hg : ErrTab w) :
    Calls Tryd.prog 3 #[.string ⟨s.toArray⟩, .int .u8 c.toNat, .string ⟨t.toArray⟩] w fun e w' => e = .returned (.bool true) ∧ Below w.heap.size w w' := by
  have HG := Lib.hid hg
  clear hg
  obtain ⟨l, ev, n, q, hll, hS, hR, hA⟩ := split_res s hs c
  obtain ⟨m, fv, n2, q2, hml, hS2, hR2, hA2⟩ := split_res t ht c
  have HS := Lib.hid hS
  have HRf := Lib.hid hR
  have HA := Lib.hid hA
  have HS2 := Lib.hid hS2
  have HRf2 := Lib.hid hR2
  have HA2 := Lib.hid hA2
  clear hS hR hA hS2 hR2 hA2
  go_enter Tryd.func3, Tryd.ntmps3
  go_wp2_with fail
  refine (HRf.out _).mono ?_
  rintro e1 w1 ⟨A1, c1, rfl, ho1, hb1⟩
  have O1 := Lib.hid ho1
  have B1 := Lib.hid hb1
  clear ho1 hb1
  go_wp2_with fail
  refine (HRf2.out _).mono ?_
  rintro e2 w2 ⟨A2, c2, rfl, ho2, hb2⟩
  have O2 := Lib.hid ho2
  have S2 := Lib.hid hb2
  have B2 := Lib.hid (B1.out.trans (hb2.mono B1.out.size))
  clear ho2 hb2
  go_wp2_with fail
  refine (HS.out _).mono ?_
  rintro e3 w3 ⟨A3, c3, rfl, ho3, hb3⟩
  have O3 := Lib.hid ho3
  have S3 := Lib.hid hb3
  have B3 := Lib.hid (B2.out.trans (hb3.mono B2.out.size))
  clear ho3 hb3
  go_wp2_with fail
  refine (HS.out _).mono ?_
  rintro e4 w4 ⟨A4, c4, rfl, ho4, hb4⟩
  have O4 := Lib.hid ho4
  have S4 := Lib.hid hb4
  have B4 := Lib.hid (B3.out.trans (hb4.mono B3.out.size))
  clear ho4 hb4
  go_wp2_with fail
  refine (HS2.out _).mono ?_
  rintro e5 w5 ⟨A5, c5, rfl, ho5, hb5⟩
  have O5 := Lib.hid ho5
  have S5 := Lib.hid hb5
  have B5 := Lib.hid (B4.out.trans (hb5.mono B4.out.size))
  clear ho5 hb5
  have AP34 := Lib.hid (own_apart O3.out O4.out (Nat.le_refl _))
  have AP35 := Lib.hid (own_apart O3.out O5.out S4.out.size)
  have AP45 := Lib.hid (own_apart O4.out O5.out (Nat.le_refl _))
  -- all rows in the last world
  have s23 := S3.out
  have s34 := s23.trans (S4.out.mono S3.out.size)
  have P1 := own_kept (own_kept (own_kept (own_kept O1.out S2.out) S3.out) S4.out) S5.out
  have P2 := own_kept (own_kept (own_kept O2.out S3.out) S4.out) S5.out
  have P3 := own_kept (own_kept O3.out S4.out) S5.out
  have P4 := own_kept O4.out S5.out
  have P5 := O5.out
  have Q1 := Lib.hid (own_less P1 (Nat.le_refl _))
  have Q2 := Lib.hid (own_less P2 B1.out.size)
  have Q3 := Lib.hid (own_less P3 B2.out.size)
  have Q4 := Lib.hid (own_less P4 B3.out.size)
  have Q5 := Lib.hid (own_less P5 B4.out.size)
  clear s23 s34 P1 P2 P3 P4 P5 O1 O2 O3 O4 O5 S2 S3 S4 S5 B1 B2 B3 B4
  have T5 := Lib.hid (Below.refl w5.heap.size w5)
  go_wp2_with fail
  refine (HA.out _ (errTab_below HG.out B5.out (errTab_lt HG.out))).mono ?_
  rintro e6 w6 ⟨rfl, hb⟩
  have T6 := Lib.hid (T5.out.trans (hb.mono T5.out.size))
  clear hb
  go_wp2_with fail
  refine (HA.out _ (errTab_below HG.out (B5.out.trans (T6.out.mono B5.out.size)) (errTab_lt HG.out))).mono ?_
  rintro e7 w7 ⟨rfl, hb⟩
  have T7 := Lib.hid (T6.out.trans (hb.mono T6.out.size))
  clear hb
  go_wp2_with fail
  refine (HA2.out _ (errTab_below HG.out (B5.out.trans (T7.out.mono B5.out.size)) (errTab_lt HG.out))).mono ?_
  rintro e8 w8 ⟨rfl, hb⟩
  have T8 := Lib.hid (T7.out.trans (hb.mono T7.out.size))
  clear hb
  go_wp2_with fail
  refine (same_words ((Reads.of_own Q3.out).below T8.out) ((Reads.of_own Q1.out).below T8.out) T8.out.size T8.out.size (by omega) (by omega) rfl).mono ?_
  rintro e9 w9 ⟨rfl, hb⟩
  have T9 := Lib.hid (T8.out.trans (hb.mono T8.out.size))
  clear hb
  go_wp2_with fail
  refine (same_words ((Reads.of_own Q4.out).below T9.out) ((Reads.of_own Q1.out).below T9.out) T9.out.size T9.out.size (by omega) (by omega) rfl).mono ?_
  rintro e10 w10 ⟨rfl, hb⟩
  have T10 := Lib.hid (T9.out.trans (hb.mono T9.out.size))
  clear hb
  go_wp2_with fail
  refine (same_words ((Reads.of_own Q5.out).below T10.out) ((Reads.of_own Q2.out).below T10.out) T10.out.size T10.out.size (by omega) (by omega) rfl).mono ?_
  rintro e11 w11 ⟨rfl, hb⟩
  have T11 := Lib.hid (T10.out.trans (hb.mono T10.out.size))
  clear hb
  go_wp2_with fail
  have hbX := T11.out.alloc T11.out.size (.cells #[.slice A3 l.length c3, .slice A4 l.length c4, .slice A5 m.length c5] 22)
  have hBW := B5.out.trans (hbX.mono B5.out.size)
  have HBW := Lib.hid hBW
  refine (apartWords_any _ w.heap.size w11.heap.size 3 #[.slice A3 l.length c3, .slice A4 l.length c4, .slice A5 m.length c5]
    (fun i => match i with | 0 => .slice A3 l.length c3 | 1 => .slice A4 l.length c4 | _ => .slice A5 m.length c5) (fun i => match i with | 0 => l.length | 1 => l.length | _ => m.length) (fun i => match i with | 0 => wd l | 1 => wd l | _ => wd m)
    (heap_alloc_new _ _) (fun i hi => by match i, hi with | 0, _ => rfl | 1, _ => rfl | 2, _ => rfl) ⟨fun i hi => ?_, fun i j hi hj hij => ?_⟩ hBW.size (by omega) (fun i hi => by match i, hi with | 0, _ => show l.length ≤ _; omega | 1, _ => show l.length ≤ _; omega | 2, _ => show m.length ≤ _; omega)).mono ?_
  · match i, hi with
    | 0, _ => exact own_kept Q3.out hbX
    | 1, _ => exact own_kept Q4.out hbX
    | 2, _ => exact own_kept Q5.out hbX
  · match i, j, hi, hj, hij with
    | 0, 1, _, _, _ => exact AP34.out.1
    | 0, 2, _, _, _ => exact AP35.out.1
    | 1, 0, _, _, _ => exact AP34.out.2
    | 1, 2, _, _, _ => exact AP45.out.1
    | 2, 0, _, _, _ => exact AP35.out.2
    | 2, 1, _, _, _ => exact AP45.out.2
    | 0, 0, _, _, h => exact absurd rfl h
    | 1, 1, _, _, h => exact absurd rfl h
    | 2, 2, _, _, h => exact absurd rfl h
  rintro e12 w12 ⟨rfl, hb⟩
  have B12 := Lib.hid (HBW.out.trans hb)
  clear hb hbX hBW
  go_wp2_with fail
  refine (works_any _ (errTab_below HG.out B12.out (errTab_lt HG.out))).mono ?_
  rintro e13 w13 ⟨rfl, hb⟩
  have B13 := Lib.hid (B12.out.trans (hb.mono B12.out.size))
  clear hb
  go_wp2
  go_ret
  exact ⟨rfl, B13.out⟩
end Go.Proofs.YtapghojjkeegjaaDoor
