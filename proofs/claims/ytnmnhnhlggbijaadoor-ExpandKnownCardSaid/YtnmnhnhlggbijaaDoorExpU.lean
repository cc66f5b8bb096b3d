/-
  The walks of package expand's told, Word and Doc at this seat's translation: what every text comes to.
-/
import Derived.Test.YtnmnhnhlggbijaaDoorExpS
import Derived.Test.YtnmnhnhlggbijaaDoorExpA
import Derived.Test.YtnmnhnhlggbijaaDoorPrs
namespace Go.Proofs.YtnmnhnhlggbijaaDoor
open Go.RowKit
namespace Exp
open T

def errV (no : Nat) : Value := if no = 0 then .nilIface else .iface 45 (.int .i64 no)
/-- What told leaves. -/
def ToldPost (f : List UInt8 → List UInt8) (O : Out) (w : World) (x : Ending) (w' : World) : Prop :=
  x = .returned (.tuple #[.string ⟨(told f O).1.toArray⟩, errV (told f O).2]) ∧ Below w.heap.size w w'
theorem told_ok {f : List UInt8 → List UInt8} {t : T} {r : List UInt8} : told f (.ok t r) = if (t.val f).length ≤ 65536 then (t.val f, 0) else ([], 5) := rfl
theorem valOf_snoc (vars : List (List UInt8 × List UInt8)) (p : List UInt8 × List UInt8) (n : List UInt8) : valOf (vars ++ [p]) n = if p.1 = n then p.2 else valOf vars n := by
  unfold valOf
  rw [List.foldl_append]
  rfl
set_option maxHeartbeats 4000000 in
set_option maxRecDepth 100000 in
theorem told_any (k : K) (s : List UInt8) (e : UInt8) (A : Option Addr) (n c : Nat) (vars : List (List UInt8 × List UInt8)) (O : Out) (w : World) (hs : s.length ≤ 4398046511104) (hn : n ≤ 4398046511104)
    (hr : Reads w w.heap.size 2 A n (px vars)) (hv : PxLe 140737488355328 vars) (h : Rd e k s O) :
    Calls Tryd.prog 26 #[.string ⟨s.toArray⟩, .int .u8 e.toNat, .int .i64 k.num, .slice A n c] w (ToldPost (valOf vars) O w) := by
  have hl : vars.length = n := by have := hr.1; rw [px_length] at this; omega
  have HL := Lib.hid hl
  have HRD := Lib.hid hr
  have HV := Lib.hid hv
  have HO := Lib.hid h
  have HC := Lib.hid (read_any k s w.heap.size e O (w.alloc (.cells #[.string ⟨s.toArray⟩, .int .i64 0, .int .u8 e.toNat] 57)) hs (Blk.new w _ _) h)
  obtain ⟨kn, hkn⟩ : ∃ kn, kn = k.num := ⟨_, rfl⟩
  rw [← hkn] at HC ⊢
  clear hl hr hv h hkn
  have hmm := @run_makeMap Tryd.prog
  go_enter Tryd.func26, Tryd.ntmps26
  go_wp2_with fail
  refine HC.out.mono ?_
  intro x w1 h1
  cases O with
  | err no =>
    obtain ⟨rfl, _, hk⟩ := h1
    have HNO := Lib.hid HO.out.no
    have HK := Lib.hid hk
    clear hk HC
    go_wp2
    go_ret2
    refine ⟨?_, ?_⟩
    · have : errV no = .iface 45 (.int .i64 no) := by unfold errV; rw [if_neg (by have := HNO.out; omega)]
      show _ = Ending.returned (.tuple #[.string ⟨(([] : List UInt8)).toArray⟩, errV no])
      rw [this]; rfl
    · exact ((((Kp.refl w.heap.size (fun _ => False) w).alloc (Nat.le_refl _) _)).trans (HK.out.mono (by simp) (fun b hb e => by omega))).below
  | ok t r =>
    obtain ⟨v, n1, q, rfl, hP, hn1, hq, hr, hR, hk⟩ := h1
    obtain ⟨A1, c1, rfl⟩ := hP.form
    obtain ⟨S, vs, ho, hp, hS⟩ := hP
    have HW : Hid (Below w.heap.size w w1) := Lib.hid ((((Kp.refl w.heap.size (fun _ => False) w).alloc (Nat.le_refl _) _)).trans (hk.mono (by simp) (fun b hb e => by omega))).below
    have HR1 := Lib.hid (Reads.of_own ho)
    have HP := Lib.hid hp
    have HS : Hid (∀ b, S b → b < w1.heap.size) := Lib.hid (fun b hb => (hS b hb).2.1)
    have HT := Lib.hid HO.out.wt
    have hn1l : n1 ≤ 4398046511104 := by omega
    have HM0 := Lib.hid (Vars.made w1)
    clear hr hR hk hp hS ho HC hn1 hq
    go_wp2_with fail
    go_loopw [33] (fun vi wr => ∃ i : Nat, i ≤ n ∧ vi = .int .i64 i ∧ Hid (Below w1.heap.size w1 wr) ∧ Hid (Vars wr w1.heap.size i (valOf (vars.take i)))) (fun vi _ => n - (intOf vi).toNat)
    case atStart => exact ⟨0, by omega, rfl, Lib.hid ((Below.refl _ _).alloc (Nat.le_refl _) _), HM0⟩
    case round =>
      clear HM0
      obtain ⟨i, hi, rfl, HB, HM⟩ := hrel
      by_cases hlt : i < n
      · obtain ⟨ad, rfl, hab, k0, k1⟩ := at_pair (HRD.out.below (HW.out.trans (HB.out.mono HW.out.size))) hlt
        have HX : Hid (∀ m, valOf (vars.take (i + 1)) m = if (vars.getD i ([], [])).1 = m then (vars.getD i ([], [])).2 else valOf (vars.take i) m) := Lib.hid (fun m => by
          have := HL.out
          rw [List.take_succ_eq_append_getElem (by omega), valOf_snoc]
          simp [List.getD, List.getElem?_eq_getElem (show i < vars.length by omega)])
        have HLE : Hid ((vars.getD i ([], [])).1.length ≤ 140737488355328 ∧ (vars.getD i ([], [])).2.length ≤ 140737488355328) := Lib.hid (by
          have hiv : i < vars.length := by have := HL.out; omega
          have := HV.out (vars.getD i ([], [])) (by simp [List.getD, List.getElem?_eq_getElem hiv])
          exact this)
        generalize (vars.getD i ([], [])).1 = key at k0 HX HLE
        generalize (vars.getD i ([], [])).2 = val at k1 HX HLE
        clear hab
        go_wp2_with (at_mapUpdate; refine wpList_vars rfl _ _ _ rfl rfl (HM.out.alloc _) (by omega) key val rfl rfl HLE.out.1 HLE.out.2 ?_; intro w3 hv3 hg3)
        have HB3 : Hid (Below w1.heap.size w1 w3) := Lib.hid (Below.grown (HB.out.alloc HB.out.size _) hg3 (by have := HB.out.size; simp; omega) (fun j hj => by cases hj; exact Nat.le_refl _))
        have HM3 : Hid (Vars w3 w1.heap.size (i + 1) (valOf (vars.take (i + 1)))) := Lib.hid (by rw [show valOf (vars.take (i + 1)) = _ from funext HX.out]; exact hv3)
        clear hv3 hg3
        go_roundw
        case rel => exact ⟨i + 1, by omega, by go_num, HB3, HM3⟩
        case measure => simp [intOf]; omega
      · have hin : i = n := by omega
        subst hin
        have HM1 : Hid (Vars wr w1.heap.size i (valOf vars)) := Lib.hid (by have := HM.out; rwa [List.take_of_length_le (by have := HL.out; omega)] at this)
        have hb1 := HB.out
        have hbs := hb1.size
        have hbm := HM1.out.lt
        have HA := Lib.hid (all_all t.wt t n1 c1 A1 vs S wr.heap.size w1.heap.size i [] (valOf vars) (wr.alloc (.cells #[.pointer none, .slice none 0 0] 84)) (Nat.le_refl _) (by have := HT.out; omega)
          (HP.out.kept fun p hp => ((hb1.alloc hbs (.cells #[.pointer none, .slice none 0 0] 84)).cell (HS.out _ hp)))
          (((HR1.out.below hb1).more hbs).alloc (Nat.le_refl _) _) (fun x hx => by have := HS.out x hx; omega) hbm (HM1.out.alloc _) (Bd.fresh wr) (by simp) hn1l)
        have HW1 : Hid (Below w.heap.size w (wr.alloc (.cells #[.pointer none, .slice none 0 0] 84))) := Lib.hid ((HW.out.trans (hb1.mono HW.out.size)).alloc (by have := HW.out.size; omega) _)
        have hwb : w.heap.size ≤ wr.heap.size := by have := HW.out.size; omega
        clear HM HM1 hb1 hbs hbm HB HR1 HP HS HRD
        unfold PutPost at HA
        simp only [List.length_nil, Nat.zero_add, List.nil_append] at HA
        by_cases hfit : (t.val (valOf vars)).length ≤ 65536
        · rw [decide_eq_true hfit] at HA
          have HF := Lib.hid hfit
          clear hfit
          go_wp2_with fail
          refine HA.out.mono ?_
          rintro x w4 ⟨l4, rfl, h1, h2, h3⟩
          have h1' := h1 HF.out
          subst h1'
          have HST := Lib.hid (string_b _ _ _ h2)
          have HW4 := Lib.hid (HW1.out.trans (h3.mono hwb))
          clear h1 h2 h3
          go_wp2_with fail
          refine HST.out.mono ?_
          rintro x w5 ⟨rfl, h2, h3⟩
          have HW5 := Lib.hid (HW4.out.trans (h3.below.mono hwb))
          clear h2 h3
          go_wp2
          go_ret2
          refine ⟨?_, HW5.out⟩
          rw [told_ok, if_pos HF.out]
          rfl
        · rw [decide_eq_false hfit] at HA
          have HF := Lib.hid hfit
          clear hfit
          go_wp2_with fail
          refine HA.out.mono ?_
          rintro x w4 ⟨l4, rfl, h1, h2, h3⟩
          have HW4 := Lib.hid (HW1.out.trans (h3.mono hwb))
          clear h1 h2 h3
          go_wp2
          go_ret2
          refine ⟨?_, HW4.out⟩
          rw [told_ok, if_neg HF.out]
          rfl
theorem word_any (s : List UInt8) (e : UInt8) (A : Option Addr) (n c : Nat) (vars : List (List UInt8 × List UInt8)) (O : Out) (w : World) (hs : s.length ≤ 4398046511104) (hn : n ≤ 4398046511104)
    (hr : Reads w w.heap.size 2 A n (px vars)) (hv : PxLe 140737488355328 vars) (h : Rd e .plain s O) :
    Calls Tryd.prog 10 #[.string ⟨s.toArray⟩, .int .u8 e.toNat, .slice A n c] w (ToldPost (valOf vars) O w) := by
  have HC := Lib.hid (told_any .plain s e A n c vars O w hs hn hr hv h)
  clear hr hv h
  simp only [K.num] at HC
  unfold ToldPost at HC ⊢
  generalize (told (valOf vars) O).1 = t1 at HC ⊢
  generalize errV (told (valOf vars) O).2 = t2 at HC ⊢
  go_enter Tryd.func10, Tryd.ntmps10
  go_wp2_with fail
  refine HC.out.mono ?_
  rintro x w1 ⟨rfl, hb⟩
  have HB := Lib.hid hb
  clear hb
  go_wp2
  go_ret2
  exact ⟨rfl, HB.out⟩
theorem doc_any (s : List UInt8) (e : UInt8) (A : Option Addr) (n c : Nat) (vars : List (List UInt8 × List UInt8)) (O : Out) (w : World) (hs : s.length ≤ 4398046511104) (hn : n ≤ 4398046511104)
    (hr : Reads w w.heap.size 2 A n (px vars)) (hv : PxLe 140737488355328 vars) (h : Rd e .doc s O) :
    Calls Tryd.prog 15 #[.string ⟨s.toArray⟩, .int .u8 e.toNat, .slice A n c] w (ToldPost (valOf vars) O w) := by
  have HC := Lib.hid (told_any .doc s e A n c vars O w hs hn hr hv h)
  clear hr hv h
  simp only [K.num] at HC
  unfold ToldPost at HC ⊢
  generalize (told (valOf vars) O).1 = t1 at HC ⊢
  generalize errV (told (valOf vars) O).2 = t2 at HC ⊢
  go_enter Tryd.func15, Tryd.ntmps15
  go_wp2_with fail
  refine HC.out.mono ?_
  rintro x w1 ⟨rfl, hb⟩
  have HB := Lib.hid hb
  clear hb
  go_wp2
  go_ret2
  exact ⟨rfl, HB.out⟩
end Exp
end Go.Proofs.YtnmnhnhlggbijaaDoor
