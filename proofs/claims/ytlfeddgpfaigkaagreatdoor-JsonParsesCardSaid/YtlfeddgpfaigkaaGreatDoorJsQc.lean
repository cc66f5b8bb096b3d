/-
  The walks of the document's Reader (strataref04): byte, word, among.
-/
import Derived.Test.YtlfeddgpfaigkaaGreatDoorJsQb
import Derived.IntWalk
namespace Go.Proofs.YtlfeddgpfaigkaaGreatDoor
open Go.RowKit
namespace Js
theorem amongR_any (c : UInt8) (l : List UInt8) (hl : l.length ≤ 1000) (w : World) :
    Calls Tryz.prog 146 #[.int .u8 (c.toNat : Int), .string ⟨l.toArray⟩] w fun x w' => x = .returned (.bool (decide (c ∈ l))) ∧ w = w' := by
  go_enter Tryz.func146, Tryz.ntmps146
  go_wp2_with fail
  go_loop [5] (fun i => ∃ k : Nat, k ≤ l.length ∧ i = .int .i64 k ∧ Hid (∀ q, q < k → l.getD q 0 ≠ c)) (fun i => l.length - (intOf i).toNat)
  case atStart => exact ⟨0, by omega, rfl, Lib.hid (fun q hq => absurd hq (by omega))⟩
  case round =>
    obtain ⟨k, hk, rfl, HN⟩ := hrel
    by_cases hlt : k < l.length
    · have hidx := run_index_list Tryz.underlying9 l k hlt
      have HM : Hid (l.getD k 0 ∈ l) := Lib.hid (by simp [List.getD, List.getElem?_eq_getElem hlt])
      by_cases hc : l.getD k 0 = c
      · have HR : Hid (decide (c ∈ l) = true) := Lib.hid (decide_eq_true (by rw [← hc]; exact HM.out))
        rw [hc] at hidx
        clear hc
        go_wp2
        go_ret
        exact ⟨by rw [HR.out]; rfl, rfl⟩
      · have H1 : Hid (∀ q, q < k + 1 → l.getD q 0 ≠ c) := Lib.hid (fun q hq => by
          rcases Nat.lt_or_ge q k with h1 | h1
          · exact HN.out q h1
          · obtain rfl : q = k := by omega
            exact hc)
        generalize l.getD k 0 = d at hidx hc
        have q1 : ((d.toNat : Int) == (c.toNat : Int)) = false := b8f hc
        clear hc
        go_wp2
        go_round
        case rel => exact ⟨k + 1, by omega, by go_num, H1⟩
        case measure => simp [intOf]; omega
    · have HR : Hid (decide (c ∈ l) = false) := Lib.hid (decide_eq_false (fun h => by
        obtain ⟨q, hq, e⟩ := List.getElem_of_mem h
        exact HN.out q (by omega) (by simp [List.getD, List.getElem?_eq_getElem hq, e])))
      go_wp2
      go_ret
      exact ⟨by rw [HR.out]; rfl, rfl⟩
/-- What byte leaves: at the end, a byte of these, another one. -/
def ByP (rb : Nat) (s : List UInt8) (i : Nat) (l : List UInt8) (w : World) (x : Ending) (w' : World) : Prop :=
  KR rb w w' ∧ ((s.length ≤ i ∧ x = .returned (.int .u8 0) ∧ Rb w' rb s i 2 i) ∨ (i < s.length ∧ s.getD i 0 ∈ l ∧ x = .returned (.int .u8 ((s.getD i 0).toNat : Int)) ∧ ∃ wh', Rb w' rb s (i + 1) 0 wh') ∨ (i < s.length ∧ s.getD i 0 ∉ l ∧ x = .returned (.int .u8 0) ∧ Rb w' rb s i 4 i))
set_option maxHeartbeats 3200000 in
set_option maxRecDepth 100000 in
theorem byteR_any (rb : Nat) (s : List UInt8) (i wh : Nat) (l : List UInt8) (w : World) (hr : Rb w rb s i 0 wh) (hs : s.length ≤ 4398046511104) (hi : i ≤ s.length) (hl : l.length ≤ 1000) :
    Calls Tryz.prog 148 #[.pointer (some ⟨rb, 0, none⟩), .string ⟨l.toArray⟩] w (ByP rb s i l w) := by
  have HR := Lib.hid hr
  clear hr
  by_cases hlt : i < s.length
  · have HE := Lib.hid (endR_f rb s i 0 wh w HR.out hlt)
    go_enter Tryz.func148, Tryz.ntmps148
    go_wp2_with fail
    refine HE.out.mono ?_
    rintro x w1 ⟨rfl, n1, rfl⟩
    obtain ⟨w1, hw1⟩ : ∃ w1, w1 = w.drewN n1 := ⟨_, rfl⟩
    have HR1 : Hid (Rb w1 rb s i 0 wh) := Lib.hid (by rw [hw1]; exact HR.out)
    have HK1 : Hid (KR rb w w1) := Lib.hid (by rw [hw1]; exact kr_drewN _ _ _)
    rw [← hw1]
    clear hw1 HR HE
    go_wp2_with fail
    go_loopw [5] (fun a wr => ∃ k : Nat, k ≤ l.length ∧ a = .int .i64 k ∧ Hid (∀ q, q < k → l.getD q 0 ≠ s.getD i 0) ∧ Hid (Rb wr rb s i 0 wh) ∧ Hid (KR rb w wr)) (fun a _ => l.length - (intOf a).toNat)
    case atStart => exact ⟨0, by omega, rfl, Lib.hid (fun q hq => absurd hq (by omega)), HR1, HK1⟩
    case round =>
      clear HR1 HK1
      obtain ⟨k, hk, rfl, HN, HR, HK⟩ := hrel
      obtain ⟨c0, c1, _, _⟩ := HR.out.cells
      by_cases hlt2 : k < l.length
      · have hidx := run_index_list Tryz.underlying9 s i hlt
        have hidx2 := run_index_list Tryz.underlying9 l k hlt2
        have HM : Hid (l.getD k 0 ∈ l) := Lib.hid (by simp [List.getD, List.getElem?_eq_getElem hlt2])
        by_cases hc : l.getD k 0 = s.getD i 0
        · have HR2 : Hid (s.getD i 0 ∈ l) := Lib.hid (by rw [← hc]; exact HM.out)
          rw [hc] at hidx2
          have HX : Hid (∀ w' wh', KR rb w w' → Rb w' rb s (i + 1) 0 wh' → ByP rb s i l w (.returned (.int .u8 ((s.getD i 0).toNat : Int))) w') := Lib.hid (fun w' wh' h1 h2 => ⟨h1, .inr (.inl ⟨hlt, HR2.out, rfl, wh', h2⟩)⟩)
          clear hc HM HN HR2
          generalize s.getD i 0 = d at hidx hidx2 HX
          go_wp2_with fail
          go_quiet (fail)
          have HRQ : Hid (Rb (wr.drewN nq) rb s i 0 wh) := Lib.hid HR.out
          have HKQ : Hid (KR rb w (wr.drewN nq)) := Lib.hid (Kp.drewN HK.out nq)
          clear c0 c1 HR HK
          generalize wr.drewN nq = wq at HRQ HKQ ⊢
          obtain ⟨c0, c1, _, _⟩ := HRQ.out.cells
          have f1 := Blk.frozen HRQ.out 1
          go_wp2
          go_ret
          exact HX.out _ wh (kr_set HKQ.out _) (HRQ.out.at_ (i + 1))
        · have H1 : Hid (∀ q, q < k + 1 → l.getD q 0 ≠ s.getD i 0) := Lib.hid (fun q hq => by
            rcases Nat.lt_or_ge q k with h1 | h1
            · exact HN.out q h1
            · obtain rfl : q = k := by omega
              exact hc)
          have hc' : s.getD i 0 ≠ l.getD k 0 := fun e => hc e.symm
          generalize l.getD k 0 = d at hidx2 hc'
          clear hc HM HN
          obtain ⟨c, hcc⟩ : ∃ c, c = s.getD i 0 := ⟨_, rfl⟩
          rw [← hcc] at hidx hc'
          have q1 : ((c.toNat : Int) == (d.toNat : Int)) = false := b8f hc'
          clear hc' hcc
          go_wp2_with fail
          go_quiet (fail)
          have HRQ : Hid (Rb (wr.drewN nq) rb s i 0 wh) := Lib.hid HR.out
          have HKQ : Hid (KR rb w (wr.drewN nq)) := Lib.hid (Kp.drewN HK.out nq)
          clear c0 c1 HR HK
          generalize wr.drewN nq = wq at HRQ HKQ ⊢
          go_wp2_with fail
          go_roundw
          case rel => exact ⟨k + 1, by omega, by go_num, H1, HRQ, HKQ⟩
          case measure => simp [intOf]; omega
      · have HR2 : Hid (s.getD i 0 ∉ l) := Lib.hid (fun h => by
          obtain ⟨q, hq, e⟩ := List.getElem_of_mem h
          exact HN.out q (by omega) (by simp [List.getD, List.getElem?_eq_getElem hq, e]))
        have HF := Lib.hid (failR_any rb s i wh 4 i wr HR.out)
        go_wp2_with fail
        refine HF.out.mono ?_
        rintro x w2 ⟨rfl, hr2, hk2⟩
        have HX : Hid (ByP rb s i l w (.returned (.int .u8 0)) w2) := Lib.hid ⟨kr_trans HK.out hk2, .inr (.inr ⟨hlt, HR2.out, rfl, hr2⟩)⟩
        clear hr2 hk2 HF c0 c1 HR
        go_wp2
        go_ret
        exact HX.out
  · have HE := Lib.hid (endR_t rb s i 0 wh w HR.out (by omega))
    go_enter Tryz.func148, Tryz.ntmps148
    go_wp2_with fail
    refine HE.out.mono ?_
    rintro x w1 ⟨rfl, n1, rfl⟩
    obtain ⟨w1, hw1⟩ : ∃ w1, w1 = w.drewN n1 := ⟨_, rfl⟩
    have HR1 : Hid (Rb w1 rb s i 0 wh) := Lib.hid (by rw [hw1]; exact HR.out)
    have HK1 : Hid (KR rb w w1) := Lib.hid (by rw [hw1]; exact kr_drewN _ _ _)
    rw [← hw1]
    clear hw1 HR HE
    obtain ⟨c0, c1, _, _⟩ := HR1.out.cells
    have HF := Lib.hid (failR_any rb s i wh 2 i w1 HR1.out)
    go_wp2_with fail
    refine HF.out.mono ?_
    rintro x w2 ⟨rfl, hr2, hk2⟩
    have HX : Hid (ByP rb s i l w (.returned (.int .u8 0)) w2) := Lib.hid ⟨kr_trans HK1.out hk2, .inl ⟨by omega, rfl, hr2⟩⟩
    clear hr2 hk2 HF c0 c1 HR1
    go_wp2
    go_ret
    exact HX.out
/-- What word leaves: the word is read, or it is not there. -/
def WoP (rb : Nat) (s : List UInt8) (i : Nat) (l : List UInt8) (w : World) (x : Ending) (w' : World) : Prop :=
  x = .returned (.tuple #[]) ∧ KR rb w w' ∧ ((l.isPrefixOf (s.drop i) = true ∧ ∃ wh', Rb w' rb s (i + l.length) 0 wh') ∨ (l.isPrefixOf (s.drop i) = false ∧ Rb w' rb s i 4 i))
theorem pre_take {l t : List UInt8} : l.isPrefixOf t = true ↔ t.take l.length = l := by
  rw [List.isPrefixOf_iff_prefix]
  constructor
  · rintro ⟨r, rfl⟩; simp
  · intro h; exact ⟨t.drop l.length, by conv => lhs; lhs; rw [← h]
                                        exact List.take_append_drop _ _⟩
set_option maxHeartbeats 3200000 in
set_option maxRecDepth 100000 in
theorem wordR_any (rb : Nat) (s : List UInt8) (i wh : Nat) (l : List UInt8) (w : World) (hr : Rb w rb s i 0 wh) (hs : s.length ≤ 4398046511104) (hi : i ≤ s.length) (hl : l.length ≤ 1000) :
    Calls Tryz.prog 106 #[.pointer (some ⟨rb, 0, none⟩), .string ⟨l.toArray⟩] w (WoP rb s i l w) := by
  have HR := Lib.hid hr
  clear hr
  obtain ⟨c0, c1, _, _⟩ := HR.out.cells
  have hwr : IntKind.i64.wrap ((s.length : Int) - (i : Int)) = (s.length : Int) - (i : Int) := IntWalk.i64_in _ ⟨by omega, by omega⟩
  have hwr2 : IntKind.i64.wrap ((i : Int) + (l.length : Int)) = (i : Int) + (l.length : Int) := IntWalk.i64_in _ ⟨by omega, by omega⟩
  go_enter Tryz.func106, Tryz.ntmps106
  by_cases hlt : s.length - i < l.length
  · have l1 : ((s.length : Int) - (i : Int) < (l.length : Int)) = True := eq_true (by omega)
    have HN : Hid (l.isPrefixOf (s.drop i) = false) := Lib.hid (by
      rw [Bool.eq_false_iff]
      intro h
      have := congrArg List.length (pre_take.1 h)
      rw [List.length_take, List.length_drop] at this
      omega)
    go_upto_region 0 with fail
    refine wp_region_held_drew (S := (fun wy => wy.cell? ⟨rb, 0, none⟩ = some (.string ⟨s.toArray⟩) ∧ wy.cell? ⟨rb, 1, none⟩ = some (.int .i64 (i : Nat)))) (by kernel_rfl) ⟨c0, c1⟩ (fun hHeld => ?_)
    refine tk 0 (h := ?_)
    try simp only [Act.put, List.setIfInBounds_toArray, List.set_cons_zero, List.set_cons_succ]
    refine tk 1 (h := ?_)
    try simp only [Act.put, List.setIfInBounds_toArray, List.set_cons_zero, List.set_cons_succ]
    refine tk 2 (h := ?_)
    try simp only [Act.put, List.setIfInBounds_toArray, List.set_cons_zero, List.set_cons_succ]
    refine tk 3 (h := ?_)
    try simp only [Act.put, List.setIfInBounds_toArray, List.set_cons_zero, List.set_cons_succ]
    refine tk 4 (h := ?_)
    try simp only [Act.put, List.setIfInBounds_toArray, List.set_cons_zero, List.set_cons_succ]
    refine tk 5 (h := ?_)
    try simp only [Act.put, List.setIfInBounds_toArray, List.set_cons_zero, List.set_cons_succ]
    refine tk 6 (h := ?_)
    try simp only [Act.put, List.setIfInBounds_toArray, List.set_cons_zero, List.set_cons_succ]
    refine tk 7 (h := ?_)
    try simp only [Act.put, List.setIfInBounds_toArray, List.set_cons_zero, List.set_cons_succ]
    refine tk 8 (h := ?_)
    try simp only [Act.put, List.setIfInBounds_toArray, List.set_cons_zero, List.set_cons_succ]
    refine tk 9 (h := ?_)
    try simp only [Act.put, List.setIfInBounds_toArray, List.set_cons_zero, List.set_cons_succ]
    refine tk 10 (h := ?_)
    try simp only [Act.put, List.setIfInBounds_toArray, List.set_cons_zero, List.set_cons_succ]
    refine tk 11 (h := ?_)
    try simp only [Act.put, List.setIfInBounds_toArray, List.set_cons_zero, List.set_cons_succ]
    refine tk 12 (h := ?_)
    try simp only [Act.put, List.setIfInBounds_toArray, List.set_cons_zero, List.set_cons_succ]
    refine tk 13 (h := ?_)
    try simp only [Act.put, List.setIfInBounds_toArray, List.set_cons_zero, List.set_cons_succ]
    refine tks 14 (h := ?_)
    try simp only [Act.put, List.setIfInBounds_toArray, List.set_cons_zero, List.set_cons_succ]
    refine tks 15 (h := ?_)
    try simp only [Act.put, List.setIfInBounds_toArray, List.set_cons_zero, List.set_cons_succ]
    refine tks 16 (h := ?_)
    try simp only [Act.put, List.setIfInBounds_toArray, List.set_cons_zero, List.set_cons_succ]
    refine tks 17 (h := ?_)
    try simp only [Act.put, List.setIfInBounds_toArray, List.set_cons_zero, List.set_cons_succ]
    refine tks 18 (h := ?_)
    try simp only [Act.put, List.setIfInBounds_toArray, List.set_cons_zero, List.set_cons_succ]
    refine tks 19 (h := ?_)
    try simp only [Act.put, List.setIfInBounds_toArray, List.set_cons_zero, List.set_cons_succ]
    refine tks 20 (h := ?_)
    try simp only [Act.put, List.setIfInBounds_toArray, List.set_cons_zero, List.set_cons_succ]
    refine tks 21 (h := ?_)
    try simp only [Act.put, List.setIfInBounds_toArray, List.set_cons_zero, List.set_cons_succ]
    refine tks 22 (h := ?_)
    try simp only [Act.put, List.setIfInBounds_toArray, List.set_cons_zero, List.set_cons_succ]
    refine tks 23 (h := ?_)
    try simp only [Act.put, List.setIfInBounds_toArray, List.set_cons_zero, List.set_cons_succ]
    refine tks 24 (h := ?_)
    try simp only [Act.put, List.setIfInBounds_toArray, List.set_cons_zero, List.set_cons_succ]
    refine tks 25 (h := ?_)
    try simp only [Act.put, List.setIfInBounds_toArray, List.set_cons_zero, List.set_cons_succ]
    refine tks 26 (h := ?_)
    try simp only [Act.put, List.setIfInBounds_toArray, List.set_cons_zero, List.set_cons_succ]
    refine tks 27 (h := ?_)
    try simp only [Act.put, List.setIfInBounds_toArray, List.set_cons_zero, List.set_cons_succ]
    refine tks 28 (h := ?_)
    try simp only [Act.put, List.setIfInBounds_toArray, List.set_cons_zero, List.set_cons_succ]
    refine tks 29 (h := ?_)
    try simp only [Act.put, List.setIfInBounds_toArray, List.set_cons_zero, List.set_cons_succ]
    refine tks 30 (h := ?_)
    try simp only [Act.put, List.setIfInBounds_toArray, List.set_cons_zero, List.set_cons_succ]
    refine tks 31 (h := ?_)
    try simp only [Act.put, List.setIfInBounds_toArray, List.set_cons_zero, List.set_cons_succ]
    refine tk 32 (h := ?_)
    try simp only [Act.put, List.setIfInBounds_toArray, List.set_cons_zero, List.set_cons_succ]
    refine wpAnyH_done (by kernel_rfl) ?_ _
    obtain ⟨w1, hw1⟩ : ∃ w1, w1 = w.drew := ⟨_, rfl⟩
    have HR1 : Hid (Rb w1 rb s i 0 wh) := Lib.hid (by rw [hw1]; exact HR.out)
    have HK1 : Hid (KR rb w w1) := Lib.hid (by rw [hw1]; exact Kp.drew (Kp.refl _ _ _))
    rw [← hw1]
    clear hw1 HR c0 c1
    obtain ⟨c0, c1, _, _⟩ := HR1.out.cells
    have HF := Lib.hid (failR_any rb s i wh 4 i w1 HR1.out)
    go_wp2_with fail
    refine HF.out.mono ?_
    rintro x w2 ⟨rfl, hr2, hk2⟩
    have HX : Hid (WoP rb s i l w (.returned (.tuple #[])) w2) := Lib.hid ⟨rfl, kr_trans HK1.out hk2, .inr ⟨HN.out, hr2⟩⟩
    clear hr2 hk2 HF c0 c1 HR1
    go_wp2
    go_end0
    exact HX.out
  · have l1 : ((s.length : Int) - (i : Int) < (l.length : Int)) = False := eq_false (by omega)
    have hsl := run_slice_list Tryz.underlying9 s .i64 .i64 (i : Int) ((i : Int) + (l.length : Int)) i (i + l.length) (by omega) (by omega) (by omega) (by omega)
    by_cases hp : (s.drop i).take l.length = l
    · have hq : ((s.drop i).take l.length == l) = true := by rw [hp]; exact beq_self_eq_true l
      have HP : Hid (l.isPrefixOf (s.drop i) = true) := Lib.hid (pre_take.2 hp)
      have HI : Hid (i + l.length ≤ 4398046511104) := Lib.hid (by omega)
      clear hp hlt
      go_wp2_with fail
      go_quiet (fail)
      have HRQ : Hid (Rb (w.drewN nq) rb s i 0 wh) := Lib.hid HR.out
      have HKQ : Hid (KR rb w (w.drewN nq)) := Lib.hid (kr_drewN _ _ _)
      clear c0 c1 HR hwr hwr2 hq hsl l1
      generalize w.drewN nq = wq at HRQ HKQ ⊢
      obtain ⟨c0, c1, _, _⟩ := HRQ.out.cells
      have f1 := Blk.frozen HRQ.out 1
      have hi2 := HI.out
      go_wp2
      go_end0
      exact ⟨rfl, kr_set HKQ.out _, .inl ⟨HP.out, wh, by have := HRQ.out.at_ (i + l.length); push_cast at this; exact this⟩⟩
    · have hq : ((s.drop i).take l.length == l) = false := by rw [beq_eq_false_iff_ne]; exact hp
      have HP : Hid (l.isPrefixOf (s.drop i) = false) := Lib.hid (by rw [Bool.eq_false_iff]; intro h; exact hp (pre_take.1 h))
      clear hp hlt
      go_wp2_with fail
      go_quiet (fail)
      have HRQ : Hid (Rb (w.drewN nq) rb s i 0 wh) := Lib.hid HR.out
      have HKQ : Hid (KR rb w (w.drewN nq)) := Lib.hid (kr_drewN _ _ _)
      clear c0 c1 HR hwr hwr2 hq hsl l1
      generalize w.drewN nq = wq at HRQ HKQ ⊢
      obtain ⟨c0, c1, _, _⟩ := HRQ.out.cells
      have HF := Lib.hid (failR_any rb s i wh 4 i wq HRQ.out)
      go_wp2_with fail
      refine HF.out.mono ?_
      rintro x w2 ⟨rfl, hr2, hk2⟩
      have HX : Hid (WoP rb s i l w (.returned (.tuple #[])) w2) := Lib.hid ⟨rfl, kr_trans HKQ.out hk2, .inr ⟨HP.out, hr2⟩⟩
      clear hr2 hk2 HF c0 c1 HRQ
      go_wp2
      go_end0
      exact HX.out
end Js
end Go.Proofs.YtlfeddgpfaigkaaGreatDoor
