/-
  The walk of stratalaw13.works at this seat's translation: it answers true.
-/
import Derived.Test.YtapghojjkeegjaaDoorWrdS
import Derived.Test.YtapghojjkeegjaaDoorWrdQ
import Derived.Test.YtapghojjkeegjaaDoorErrN
namespace Go.Proofs.YtapghojjkeegjaaDoor
open Go.RowKit Wrd Err

/-- What Split leaves, where the words are known. -/
def SplitOk (l : List (Nat × List UInt8)) (w : World) (e : Ending) (w' : World) : Prop := ∃ A c, e = .returned (.tuple #[.slice A l.length c, .nilIface]) ∧ Reads w' w'.heap.size 2 A l.length (wd l) ∧ Below w.heap.size w w'
theorem split_ok {s : List UInt8} {c : UInt8} {l : List (Nat × List UInt8)} (h : split s c = .ok l) (hs : s.length ≤ 4398046511104) (w : World) :
    Calls Tryd.prog 10 #[.string ⟨s.toArray⟩, .int .u8 c.toNat] w (SplitOk l w) :=
  (Split_any s hs c w).mono fun e w' hp => by
    rcases hp with ⟨l', v, h1, rfl, h3, h4⟩ | ⟨q, h1, _, _⟩
    · rw [h] at h1
      cases h1
      obtain ⟨A, c, rfl, hr⟩ := own_readsN h3
      exact ⟨A, c, rfl, hr, h4⟩
    · rw [h] at h1; cases h1
theorem split_err {s : List UInt8} {c : UInt8} {q : Nat} (h : split s c = .error q) (hs : s.length ≤ 4398046511104) (w : World) :
    Calls Tryd.prog 10 #[.string ⟨s.toArray⟩, .int .u8 c.toNat] w fun e w' => e = .returned (.tuple #[.slice none 0 0, .iface 57 (.agg #[.int .i64 18, .int .i64 0, .int .i64 (q : Nat)])]) ∧ Below w.heap.size w w' :=
  (Split_any s hs c w).mono fun e w' hp => by
    rcases hp with ⟨l', v, h1, rfl, h3, h4⟩ | ⟨q', h1, h2, h3⟩
    · rw [h] at h1; cases h1
    · rw [h] at h1
      cases h1
      exact ⟨h2, h3⟩
theorem same_words {A A' : Option Addr} {n c n' c' B B' : Nat} {l m : List (Nat × List UInt8)} {w : World} (hr : Reads w B 2 A n (wd l)) (hr' : Reads w B' 2 A' n' (wd m)) (hB : B ≤ w.heap.size) (hB' : B' ≤ w.heap.size) (hn : n ≤ 140737488355328) (hn' : n' ≤ 140737488355328) (h : l = m) :
    Calls Tryd.prog 12 #[.slice A n c, .slice A' n' c'] w fun e w' => e = .returned (.bool true) ∧ Below w.heap.size w w' :=
  (SameWords_any A A' n c n' c' B B' l m w hr hr' hB hB' hn hn').mono fun _ _ ⟨h1, h2⟩ => ⟨by rw [h1, decide_eq_true h], h2⟩

theorem works_f1 : split [97, 32, 39, 98, 32, 99, 39, 92, 32, 100] 92 = .ok [(0, [97]), (2, [39, 98, 32, 99, 39, 92, 32, 100])] := by rfl
theorem works_f2 : split [97, 32, 34, 98] 92 = .error 2 := by rfl
theorem works_f3 : quote [97, 32, 36] 96 = [34, 97, 32, 96, 36, 34] := by rfl
theorem works_f4 : quote [97] 92 = [97] := by rfl

set_option maxHeartbeats 1000000 in
theorem works_any (w : World) (hg : ErrTab w) : Calls Tryd.prog 14 #[] w fun e w' => e = .returned (.bool true) ∧ Below w.heap.size w w' := by
  have HG := Lib.hid hg
  clear hg
  go_enter Tryd.func14, Tryd.ntmps14
  go_wp2_with fail
  refine (split_ok works_f1 (by decide) _).mono ?_
  rintro e1 w1 ⟨A, c, rfl, hr1, hb1⟩
  have HR1 := Lib.hid hr1
  have B1 := Lib.hid hb1
  clear hr1 hb1
  go_wp2_with fail
  refine (split_err works_f2 (by decide) _).mono ?_
  rintro e2 w2 ⟨rfl, hb2⟩
  have HR2 := Lib.hid (HR1.out.step (Nat.le_refl _) hb2)
  have B2 := Lib.hid (B1.out.trans (hb2.mono B1.out.size))
  clear hb2 HR1 B1
  go_wp2_with fail
  refine (same_words ((HR2.out.alloc (Nat.le_refl _) _).more (Nat.le_of_lt (by simp))) (Reads.of_block (n := 2) (heap_alloc_new _ _) rfl) (Nat.le_refl _) (Nat.le_refl _) (by decide) (by decide) rfl).mono ?_
  rintro e3 w3 ⟨rfl, hb3⟩
  have B3 := Lib.hid ((B2.out.alloc B2.out.size _).trans (hb3.mono (by have := B2.out.size; simp; omega)))
  clear hb3 HR2 B2
  go_wp2_with fail
  refine (at_fault 18 0 2 (by omega) (by omega) _ (errTab_below HG.out B3.out (errTab_lt HG.out))).mono ?_
  rintro e4 w4 ⟨rfl, hb4⟩
  have B4 := Lib.hid (B3.out.trans (hb4.mono B3.out.size))
  clear hb4 B3
  go_wp2_with fail
  refine (Quote_any [97, 32, 36] (by decide) 96 _).mono ?_
  rintro e5 w5 ⟨rfl, hb5⟩
  have B5 := Lib.hid (B4.out.trans (hb5.mono B4.out.size))
  clear hb5 B4
  rw [works_f3]
  go_wp2_with fail
  refine (Quote_any [97] (by decide) 92 _).mono ?_
  rintro e6 w6 ⟨rfl, hb6⟩
  have B6 := Lib.hid (B5.out.trans (hb6.mono B5.out.size))
  clear hb6 B5
  rw [works_f4]
  go_wp2
  go_ret
  exact ⟨rfl, B6.out⟩
end Go.Proofs.YtapghojjkeegjaaDoor
