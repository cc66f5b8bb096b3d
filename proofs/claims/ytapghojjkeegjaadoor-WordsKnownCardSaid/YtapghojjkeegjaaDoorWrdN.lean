/-
  The walks of stratalaw13's raws, endless and WordsKnown at this seat's translation.
-/
import Derived.Test.YtapghojjkeegjaaDoorWrdD
namespace Go.Proofs.YtapghojjkeegjaaDoor
open Go.RowKit Wrd Err

/-- Are the words of a text these? -/
def rawsB (s : List UInt8) (c : UInt8) (want : List (List UInt8)) : Bool := match split s c with
  | .ok l => l.map Prod.snd == want
  | .error _ => false
set_option maxHeartbeats 1000000 in
theorem raws_true {s : List UInt8} {c : UInt8} {want : List (List UInt8)} (h : rawsB s c want = true) (hs : s.length ≤ 1000000 ∧ want.length ≤ 1000000) {A2 : Option Addr} {n2 c2 B : Nat} {w : World} (hr : Reads w B 1 A2 n2 (tx want)) (hB : B ≤ w.heap.size) (wx : World) (hwx : w = wx := by rfl) :
    Calls Tryd.prog 20 #[.string ⟨s.toArray⟩, .int .u8 c.toNat, .slice A2 n2 c2] wx fun e w' => e = .returned (.bool true) ∧ Below wx.heap.size wx w' := by
  subst hwx
  unfold rawsB at h
  cases hsp : split s c with
  | error q => rw [hsp] at h; cases h
  | ok L =>
    rw [hsp] at h
    have hL : L.map Prod.snd = want := by simpa using h
    have hLn : L.length = n2 := by have h1 := congrArg List.length hL; have h2 := hr.1; rw [tx_length] at h2; simp at h1; omega
    have hln : n2 ≤ 1000000 := by have h1 := congrArg List.length hL; simp at h1; omega
    have HSP := Lib.hid hsp
    have HW := Lib.hid (by have h2 := hr.1; rw [tx_length] at h2; omega : want.length = n2)
    have HQL : Hid (∀ j, j < n2 → ∃ a r, L.getD j (0, []) = (a, r) ∧ want.getD j [] = r) := Lib.hid (fun j hj => by
      refine ⟨_, _, rfl, ?_⟩
      rw [← hL]
      simp [List.getD, List.getElem?_eq_getElem (show j < L.length by omega)])
    have HR2 := Lib.hid (hr.more hB)
    obtain ⟨hs1, _⟩ := hs
    clear hr h hsp hL
    go_enter Tryd.func20, Tryd.ntmps20
    go_wp2_with fail
    refine (split_ok HSP.out (by omega) _).mono ?_
    rintro e1 w1 ⟨A1, c1, rfl, hr1, hb1⟩
    rw [hLn] at hr1
    have HR1 := Lib.hid hr1
    have HR2 := Lib.hid (HR2.out.step (Nat.le_refl _) hb1)
    have B1 := Lib.hid hb1
    rw [hLn]
    clear hr1 hb1 hLn
    go_wp2_with fail
    go_loopw [9] (fun i wx => ∃ j : Nat, j ≤ n2 ∧ i = .int .i64 j ∧ Hid (Below w1.heap.size w1 wx)) (fun i _ => n2 - (intOf i).toNat)
    case atStart => exact ⟨0, by omega, rfl, Lib.hid (Below.refl _ _)⟩
    case round =>
      obtain ⟨j, hj, rfl, HW2⟩ := hrel
      by_cases hjk : j < n2
      · obtain ⟨ad1, rfl, _, f1, f2⟩ := at_word (HR1.out.below HW2.out) hjk
        obtain ⟨ad2, u, rfl, _, hu, hc⟩ := (HR2.out.below HW2.out).at_ hjk
        obtain rfl := tx_get hu (by have := HW.out; omega)
        obtain ⟨a, r, hx, hy⟩ := HQL.out j hjk
        rw [hx] at f1 f2
        rw [hy] at hc
        clear hx hy hu
        simp only at f1 f2
        go_wp2_with fail
        go_quiet (fail)
        have HW3 := Lib.hid (below_drew HW2.out (rfl : World.drewN _ nq = World.drewN _ nq))
        go_wp2
        go_roundw
        case rel => exact ⟨j + 1, by omega, by go_num, HW3⟩
        case measure => simp [intOf]; omega
      · have B5 := Lib.hid (B1.out.trans (HW2.out.mono B1.out.size))
        go_wp2
        go_ret
        exact ⟨rfl, B5.out⟩
theorem endless_true {s : List UInt8} {q : Nat} (h : split s 92 = .error q) (hs : s.length ≤ 1000000) (w : World) (hg : ErrTab w) :
    Calls Tryd.prog 21 #[.string ⟨s.toArray⟩, .int .i64 q] w fun e w' => e = .returned (.bool true) ∧ Below w.heap.size w w' := by
  have HG := Lib.hid hg
  have HS := Lib.hid h
  clear hg h
  go_enter Tryd.func21, Tryd.ntmps21
  go_wp2_with fail
  refine (split_err HS.out (by omega) _).mono ?_
  rintro e1 w1 ⟨rfl, hb1⟩
  have B1 := Lib.hid hb1
  clear hb1
  go_wp2_with fail
  refine (at_fault 18 0 q (by omega) (by omega) _ (errTab_below HG.out B1.out (errTab_lt HG.out))).mono ?_
  rintro e2 w2 ⟨rfl, hb2⟩
  have B2 := Lib.hid (B1.out.trans (hb2.mono B1.out.size))
  clear hb2
  go_wp2
  go_ret
  exact ⟨rfl, B2.out⟩

def oddL : List UInt8 := [33, 35, 38, 39, 40, 41, 42, 59, 60, 62, 63, 91, 93, 94, 96, 123, 124, 125, 126, 0, 127, 128, 10, 32]
theorem odd_quote (k : Nat) (h : k < 24) : quote [oddL.getD k 0] 92 = [34, oddL.getD k 0, 34] :=
  (show ∀ k : Fin 24, quote [oddL.getD k.val 0] 92 = [34, oddL.getD k.val 0, 34] by decide +kernel) ⟨k, h⟩
set_option maxHeartbeats 4000000 in
set_option maxRecDepth 100000 in
theorem wordsKnown_any (w : World) (hg : ErrTab w) :
    Calls Tryd.prog 8 #[] w fun e w' => e = .returned (.bool true) ∧ Below w.heap.size w w' := by
  have HG := Lib.hid hg
  clear hg
  have B0 := Lib.hid (Below.refl w.heap.size w)
  go_enter Tryd.func8, Tryd.ntmps8
  go_wp2_with fail
  refine (raws_true (want := [[97], [98]]) (show rawsB [97, 32, 32, 98] 92 [[97], [98]] = true by rfl) (by decide) (Reads.of_block (n := 2) (heap_alloc_new _ _) rfl) (Nat.le_refl _) _).mono ?_
  rintro e1 w1 ⟨rfl, hb⟩
  have B1 := Lib.hid ((B0.out.alloc B0.out.size _).trans (hb.mono (by simp)))
  clear hb B0
  go_wp2_with fail
  refine (raws_true (want := []) (show rawsB [32, 9, 13] 92 [] = true by rfl) (by decide) Reads.none_ (Nat.le_refl _) _).mono ?_
  rintro e2 w2 ⟨rfl, hb⟩
  have B2 := Lib.hid (B1.out.trans (hb.mono B1.out.size))
  clear hb B1
  go_wp2_with fail
  refine (raws_true (want := []) (show rawsB [] 92 [] = true by rfl) (by decide) Reads.none_ (Nat.le_refl _) _).mono ?_
  rintro e3 w3 ⟨rfl, hb⟩
  have B3 := Lib.hid (B2.out.trans (hb.mono B2.out.size))
  clear hb B2
  go_wp2_with fail
  refine (raws_true (want := [[97, 39, 98, 32, 99, 39, 100], [34, 101, 32, 102, 34]]) (show rawsB [97, 39, 98, 32, 99, 39, 100, 32, 34, 101, 32, 102, 34] 92 [[97, 39, 98, 32, 99, 39, 100], [34, 101, 32, 102, 34]] = true by rfl) (by decide) (Reads.of_block (n := 2) (heap_alloc_new _ _) rfl) (Nat.le_refl _) _).mono ?_
  rintro e4 w4 ⟨rfl, hb⟩
  have B4 := Lib.hid ((B3.out.alloc B3.out.size _).trans (hb.mono (by have := B3.out.size; simp; omega)))
  clear hb B3
  go_wp2_with fail
  refine (raws_true (want := [[97, 92, 32, 98], [99]]) (show rawsB [97, 92, 32, 98, 32, 99] 92 [[97, 92, 32, 98], [99]] = true by rfl) (by decide) (Reads.of_block (n := 2) (heap_alloc_new _ _) rfl) (Nat.le_refl _) _).mono ?_
  rintro e5 w5 ⟨rfl, hb⟩
  have B5 := Lib.hid ((B4.out.alloc B4.out.size _).trans (hb.mono (by have := B4.out.size; simp; omega)))
  clear hb B4
  go_wp2_with fail
  refine (raws_true (want := [[97, 92], [98], [99]]) (show rawsB [97, 92, 32, 98, 32, 99] 96 [[97, 92], [98], [99]] = true by rfl) (by decide) (Reads.of_block (n := 3) (heap_alloc_new _ _) rfl) (Nat.le_refl _) _).mono ?_
  rintro e6 w6 ⟨rfl, hb⟩
  have B6 := Lib.hid ((B5.out.alloc B5.out.size _).trans (hb.mono (by have := B5.out.size; simp; omega)))
  clear hb B5
  go_wp2_with fail
  refine (raws_true (want := [[34, 97, 92, 34, 98, 34], [39, 99, 92, 39], [100]]) (show rawsB [34, 97, 92, 34, 98, 34, 32, 39, 99, 92, 39, 32, 100] 92 [[34, 97, 92, 34, 98, 34], [39, 99, 92, 39], [100]] = true by rfl) (by decide) (Reads.of_block (n := 3) (heap_alloc_new _ _) rfl) (Nat.le_refl _) _).mono ?_
  rintro e7 w7 ⟨rfl, hb⟩
  have B7 := Lib.hid ((B6.out.alloc B6.out.size _).trans (hb.mono (by have := B6.out.size; simp; omega)))
  clear hb B6
  go_wp2_with fail
  refine (raws_true (want := [[92, 39, 97], [98]]) (show rawsB [92, 39, 97, 32, 98] 92 [[92, 39, 97], [98]] = true by rfl) (by decide) (Reads.of_block (n := 2) (heap_alloc_new _ _) rfl) (Nat.le_refl _) _).mono ?_
  rintro e8 w8 ⟨rfl, hb⟩
  have B8 := Lib.hid ((B7.out.alloc B7.out.size _).trans (hb.mono (by have := B7.out.size; simp; omega)))
  clear hb B7
  go_wp2_with fail
  refine (raws_true (want := [[97, 92]]) (show rawsB [97, 92] 92 [[97, 92]] = true by rfl) (by decide) (Reads.of_block (n := 1) (heap_alloc_new _ _) rfl) (Nat.le_refl _) _).mono ?_
  rintro e9 w9 ⟨rfl, hb⟩
  have B9 := Lib.hid ((B8.out.alloc B8.out.size _).trans (hb.mono (by have := B8.out.size; simp; omega)))
  clear hb B8
  go_wp2_with fail
  refine (raws_true (want := [[97, 10, 98, 11, 99, 0]]) (show rawsB [97, 10, 98, 11, 99, 0] 92 [[97, 10, 98, 11, 99, 0]] = true by rfl) (by decide) (Reads.of_block (n := 1) (heap_alloc_new _ _) rfl) (Nat.le_refl _) _).mono ?_
  rintro e10 w10 ⟨rfl, hb⟩
  have B10 := Lib.hid ((B9.out.alloc B9.out.size _).trans (hb.mono (by have := B9.out.size; simp; omega)))
  clear hb B9
  go_wp2_with fail
  refine (endless_true (q := 2) (show split [97, 96, 34, 98, 32, 99] 92 = .error 2 by rfl) (by decide) _ (errTab_below HG.out B10.out (errTab_lt HG.out))).mono ?_
  rintro e11 w11 ⟨rfl, hb⟩
  have B11 := Lib.hid (B10.out.trans (hb.mono B10.out.size))
  clear hb B10
  go_wp2_with fail
  refine (endless_true (q := 2) (show split [97, 32, 39, 98] 92 = .error 2 by rfl) (by decide) _ (errTab_below HG.out B11.out (errTab_lt HG.out))).mono ?_
  rintro e12 w12 ⟨rfl, hb⟩
  have B12 := Lib.hid (B11.out.trans (hb.mono B11.out.size))
  clear hb B11
  go_wp2_with fail
  refine (endless_true (q := 0) (show split [34, 97, 92, 34] 92 = .error 0 by rfl) (by decide) _ (errTab_below HG.out B12.out (errTab_lt HG.out))).mono ?_
  rintro e13 w13 ⟨rfl, hb⟩
  have B13 := Lib.hid (B12.out.trans (hb.mono B12.out.size))
  clear hb B12
  go_wp2_with fail
  refine (endless_true (q := 0) (show split [39, 34, 32, 120] 92 = .error 0 by rfl) (by decide) _ (errTab_below HG.out B13.out (errTab_lt HG.out))).mono ?_
  rintro e14 w14 ⟨rfl, hb⟩
  have B14 := Lib.hid (B13.out.trans (hb.mono B13.out.size))
  clear hb B13
  go_wp2_with fail
  refine (endless_true (q := 3) (show split [97, 39, 39, 34] 92 = .error 3 by rfl) (by decide) _ (errTab_below HG.out B14.out (errTab_lt HG.out))).mono ?_
  rintro e15 w15 ⟨rfl, hb⟩
  have B15 := Lib.hid (B14.out.trans (hb.mono B14.out.size))
  clear hb B14
  go_wp2_with fail
  refine (endless_true (q := 0) (show split [34, 92] 92 = .error 0 by rfl) (by decide) _ (errTab_below HG.out B15.out (errTab_lt HG.out))).mono ?_
  rintro e16 w16 ⟨rfl, hb⟩
  have B16 := Lib.hid (B15.out.trans (hb.mono B15.out.size))
  clear hb B15
  go_wp2_with fail
  refine (raws_true (want := [[97, 96, 34], [98, 96, 96, 34, 99, 32, 100, 34]]) (show rawsB [97, 96, 34, 32, 98, 96, 96, 34, 99, 32, 100, 34] 96 [[97, 96, 34], [98, 96, 96, 34, 99, 32, 100, 34]] = true by rfl) (by decide) (Reads.of_block (n := 2) (heap_alloc_new _ _) rfl) (Nat.le_refl _) _).mono ?_
  rintro e17 w17 ⟨rfl, hb⟩
  have B17 := Lib.hid ((B16.out.alloc B16.out.size _).trans (hb.mono (by have := B16.out.size; simp; omega)))
  clear hb B16
  go_wp2_with fail
  refine (raws_true (want := [[97, 92, 92], [98]]) (show rawsB [97, 92, 92, 32, 98] 120 [[97, 92, 92], [98]] = true by rfl) (by decide) (Reads.of_block (n := 2) (heap_alloc_new _ _) rfl) (Nat.le_refl _) _).mono ?_
  rintro e18 w18 ⟨rfl, hb⟩
  have B18 := Lib.hid ((B17.out.alloc B17.out.size _).trans (hb.mono (by have := B17.out.size; simp; omega)))
  clear hb B17
  go_wp2_with fail
  refine (Quote_any [97, 47, 98, 46, 99] (by decide) 92 _).mono ?_
  rintro e19 w19 ⟨rfl, hb⟩
  have B19 := Lib.hid (B18.out.trans (hb.mono B18.out.size))
  clear hb B18
  rw [show quote [97, 47, 98, 46, 99] 92 = [97, 47, 98, 46, 99] by rfl]
  go_wp2_with fail
  refine (Quote_any [] (by decide) 92 _).mono ?_
  rintro e20 w20 ⟨rfl, hb⟩
  have B20 := Lib.hid (B19.out.trans (hb.mono B19.out.size))
  clear hb B19
  rw [show quote [] 92 = [34, 34] by rfl]
  go_wp2_with fail
  refine (Quote_any [97, 32, 98] (by decide) 92 _).mono ?_
  rintro e21 w21 ⟨rfl, hb⟩
  have B21 := Lib.hid (B20.out.trans (hb.mono B20.out.size))
  clear hb B20
  rw [show quote [97, 32, 98] 92 = [34, 97, 32, 98, 34] by rfl]
  go_wp2_with fail
  refine (Quote_any [97, 34, 36, 92, 96] (by decide) 92 _).mono ?_
  rintro e22 w22 ⟨rfl, hb⟩
  have B22 := Lib.hid (B21.out.trans (hb.mono B21.out.size))
  clear hb B21
  rw [show quote [97, 34, 36, 92, 96] 92 = [34, 97, 92, 34, 92, 36, 92, 92, 96, 34] by rfl]
  go_wp2_with fail
  refine (Quote_any [92, 96] (by decide) 96 _).mono ?_
  rintro e23 w23 ⟨rfl, hb⟩
  have B23 := Lib.hid (B22.out.trans (hb.mono B22.out.size))
  clear hb B22
  rw [show quote [92, 96] 96 = [34, 92, 96, 96, 34] by rfl]
  go_wp2_with fail
  refine (Quote_any [92] (by decide) 120 _).mono ?_
  rintro e24 w24 ⟨rfl, hb⟩
  have B24 := Lib.hid (B23.out.trans (hb.mono B23.out.size))
  clear hb B23
  rw [show quote [92] 120 = [34, 92, 92, 34] by rfl]
  go_wp2_with fail
  refine (Quote_any [97, 90, 48, 57, 95, 45, 46, 47, 58, 44, 43, 61, 64, 37] (by decide) 96 _).mono ?_
  rintro e25 w25 ⟨rfl, hb⟩
  have B25 := Lib.hid (B24.out.trans (hb.mono B24.out.size))
  clear hb B24
  rw [show quote [97, 90, 48, 57, 95, 45, 46, 47, 58, 44, 43, 61, 64, 37] 96 = [97, 90, 48, 57, 95, 45, 46, 47, 58, 44, 43, 61, 64, 37] by rfl]
  go_wp2_with fail
  go_loopw [6] (fun i wr => ∃ k : Nat, k ≤ 24 ∧ i = .int .i64 k ∧ Hid (Below w.heap.size w wr)) (fun i _ => 24 - (intOf i).toNat)
  case atStart => exact ⟨0, by omega, rfl, B25⟩
  case round =>
    clear B25
    obtain ⟨k, hk, rfl, HW⟩ := hrel
    by_cases hlt : k < 24
    · have HO := Lib.hid (odd_quote k hlt)
      have hsl : ∀ wx : World, (Instr.slice 9 (.string ⟨#[33, 35, 38, 39, 40, 41, 42, 59, 60, 62, 63, 91, 93, 94, 96, 123, 124, 125, 126, 0, 127, 128, 10, 32]⟩) (some (.int .i64 (k : Int))) (some (.int .i64 ((k : Int) + 1))) none).run Tryd.prog wx = .ok (.string ⟨[oddL.getD k 0].toArray⟩) wx := fun wx => by
        have h := run_slice_list Tryd.underlying9 oddL .i64 .i64 (k : Int) ((k : Int) + 1) k (k + 1) rfl (by simp) (by omega) hlt wx
        rw [show (oddL.drop k).take (k + 1 - k) = [oddL.getD k 0] by
          rw [Nat.add_sub_cancel_left, List.drop_eq_getElem_cons (show k < oddL.length from hlt), List.take_succ_cons, List.take_zero]
          simp [List.getD, List.getElem?_eq_getElem (show k < oddL.length from hlt)]] at h
        exact h
      generalize oddL.getD k 0 = c at HO hsl
      have ha1 : ∀ wx : World, (Op.stringOp .add ⟨#[34]⟩ ⟨#[c]⟩).run Tryd.prog wx = .ok (.string ⟨#[34, c]⟩) wx := add_bytes [34] [c] (by simp)
      have ha2 : ∀ wx : World, (Op.stringOp .add ⟨#[34, c]⟩ ⟨#[34]⟩).run Tryd.prog wx = .ok (.string ⟨#[34, c, 34]⟩) wx := add_bytes [34, c] [34] (by simp)
      have HQ := Lib.hid (Quote_any [c] (by simp) 92)
      rw [HO.out] at HQ
      go_wp2_with fail
      refine (HQ.out _).mono ?_
      rintro e1 w1 ⟨rfl, hb1⟩
      have HW1 := Lib.hid (HW.out.trans (hb1.mono HW.out.size))
      clear hb1
      go_wp2
      go_roundw
      case rel => exact ⟨k + 1, by omega, by go_num, HW1⟩
      case measure => simp [intOf]; omega
    · go_wp2_with fail
      refine (works_any _ (errTab_below HG.out HW.out (errTab_lt HG.out))).mono ?_
      rintro e6 w6 ⟨rfl, hb6⟩
      have B6 := Lib.hid (HW.out.trans (hb6.mono HW.out.size))
      clear hb6
      go_wp2
      go_ret
      exact ⟨rfl, B6.out⟩
end Go.Proofs.YtapghojjkeegjaaDoor
