/-
  The walks of the reference's told, Word, Doc and Names at this seat's translation: what every text comes to.
-/
import Derived.Test.YtnmnhnhlggbijaaDoorRfT
namespace Go.Proofs.YtnmnhnhlggbijaaDoor
open Go.RowKit
namespace Exp
open T

/-- What the reference's told leaves. -/
def RToldPost (f : List UInt8 → List UInt8) (O : Out) (w : World) (x : Ending) (w' : World) : Prop :=
  x = .returned (.tuple #[.string ⟨(told f O).1.toArray⟩, .int .i64 (told f O).2]) ∧ Below w.heap.size w w'
set_option maxHeartbeats 2000000 in
theorem rtold_bad (s : List UInt8) (q rb : Nat) (e : UInt8) (no : Nat) (nv v vv : Value) (f : List UInt8 → List UInt8) (w : World) (hr : RdrR w rb s q e no nv) (hno : no ≠ 0) :
    Calls Tryd.prog 24 #[.pointer (some ⟨rb, 0, none⟩), v, vv] w (RToldPost f (.err no) w) := by
  have c3 := RdrR.c3 hr
  have q0 : ((no : Int) != 0) = true := by simp; omega
  clear hr hno
  go_enter Tryd.func24, Tryd.ntmps24
  go_wp2_with fail
  go_quiet (fail)
  go_wp2_with fail
  go_ret2
  exact ⟨rfl, (Kp.refl w.heap.size (fun _ => False) w).drewN nq |>.below⟩
theorem toldOk {f : List UInt8 → List UInt8} {t : T} {r : List UInt8} : told f (.ok t r) = if (t.val f).length ≤ 65536 then (t.val f, 0) else ([], 5) := rfl
set_option maxHeartbeats 2000000 in
set_option maxRecDepth 100000 in
theorem rtold_good (s : List UInt8) (q rb n kv cv B : Nat) (e : UInt8) (nv v : Value) (t : T) (r : List UInt8) (Av : Option Addr) (vars : List (List UInt8 × List UInt8)) (w : World) (hr : RdrR w rb s q e 0 nv) (hP : RL w B v t n)
    (hwt : t.wt ≤ 4398046511104) (hops : t.Ops) (hn : n ≤ 4398046511104) (hrv : Reads w w.heap.size 2 Av kv (px vars)) (hkv : kv ≤ 4398046511104) (hle : PxLe 140737488355328 vars) :
    Calls Tryd.prog 24 #[.pointer (some ⟨rb, 0, none⟩), v, .slice Av kv cv] w (RToldPost (valOf vars) (.ok t r) w) := by
  have c3 := RdrR.c3 hr
  obtain ⟨A, c, rfl⟩ := hP.form
  obtain ⟨S, vs, ho, hp, hS⟩ := hP
  have HPT := Lib.hid (rput_all t.wt t n c kv cv A Av vs S w.heap.size (.slice none 0 0) [] vars w (Nat.le_refl _) hwt hops hp (Reads.of_own ho) (fun x hx => (hS x hx).2.1) (Nat.le_refl _) hrv hkv hle (World.ownsRow_nil _ _ _ _) (by simp) hn)
  clear hr ho hp hS hwt hops hrv hle
  unfold RPutPost at HPT
  simp only [List.length_nil, Nat.zero_add, List.nil_append] at HPT
  obtain ⟨x, hx⟩ : ∃ x, x = t.val (valOf vars) := ⟨_, rfl⟩
  rw [← hx] at HPT
  have HX := Lib.hid hx
  clear hx
  go_enter Tryd.func24, Tryd.ntmps24
  go_wp2_with fail
  refine HPT.out.mono ?_
  rintro y w1 ⟨hb, ⟨hf, v1, rfl, ho1⟩ | ⟨hf, A1, n1, c1, rfl⟩⟩
  · obtain ⟨A1, c1, rfl, hr1⟩ := own_readsN ho1
    have hcv := run_convert_reads (P := Tryd.prog) (src := 54) (dst := 9) (e := 5) Tryd.underlying54 Tryd.underlying5 Tryd.underlying9 c1 hr1
    have HB := Lib.hid hb
    have HF := Lib.hid hf
    clear hb hf ho1 hr1
    go_wp2_with fail
    go_ret2
    refine ⟨?_, HB.out⟩
    rw [toldOk, ← HX.out, if_pos HF.out]; rfl
  · have HB := Lib.hid hb
    have HF := Lib.hid hf
    clear hb hf
    go_wp2_with fail
    go_ret2
    refine ⟨?_, HB.out⟩
    rw [toldOk, ← HX.out, if_neg HF.out]; rfl
set_option maxHeartbeats 2000000 in
theorem wordR_any (s : List UInt8) (e : UInt8) (A : Option Addr) (n c : Nat) (vars : List (List UInt8 × List UInt8)) (O : Out) (w : World) (hs : s.length ≤ 1099511627776) (hn : n ≤ 4398046511104)
    (hr : Reads w w.heap.size 2 A n (px vars)) (hv : PxLe 140737488355328 vars) (h : Rd e .plain s O) :
    Calls Tryd.prog 8 #[.string ⟨s.toArray⟩, .int .u8 e.toNat, .slice A n c] w (RToldPost (valOf vars) O w) := by
  have HC := Lib.hid (rpla_any s w.heap.size e (.slice none 0 0) O (w.alloc (.cells #[.string ⟨s.toArray⟩, .int .i64 0, .int .u8 e.toNat, .int .i64 0, .slice none 0 0] 40)) hs (Blk.new w _ _) (World.ownsRow_nil _ _ _ _) h)
  have HR := Lib.hid hr
  have HV := Lib.hid hv
  have HO := Lib.hid h
  clear hr hv h
  go_enter Tryd.func8, Tryd.ntmps8
  go_wp2_with fail
  refine HC.out.mono ?_
  intro x w1 h1
  clear HC
  cases O with
  | err no =>
    obtain ⟨v, t, n1, q, nv, rfl, _, _, _, _, hrd, hk⟩ := h1
    have hw : Below w.heap.size w w1 := ((Below.refl w.heap.size w).alloc (Nat.le_refl _) _).trans (hk.below (by simp))
    have HT := Lib.hid (rtold_bad s q w.heap.size e no nv v (.slice A n c) (valOf vars) w1 hrd (by have := HO.out.no; omega))
    have HW := Lib.hid hw
    unfold RToldPost at HT
    clear hrd hk hw
    go_wp2_with fail
    refine HT.out.mono ?_
    rintro y w2 ⟨rfl, hb⟩
    have HB := Lib.hid (HW.out.trans (hb.mono HW.out.size))
    clear hb
    go_wp2_with fail
    go_ret2
    exact ⟨rfl, HB.out⟩
  | ok t r =>
    obtain ⟨v, n1, q, nv, rfl, hP, hnq, hql, hrr, hrd, ho, hk⟩ := h1
    have hw : Below w.heap.size w w1 := ((Below.refl w.heap.size w).alloc (Nat.le_refl _) _).trans (hk.below (by simp))
    have HT := Lib.hid (rtold_good s q w.heap.size n1 n c _ e nv v t r A vars w1 hrd hP (by have := HO.out.wt; omega) HO.out.ops (by omega) ((HR.out.below hw).more hw.size) hn HV.out)
    have HW := Lib.hid hw
    unfold RToldPost at HT
    clear hrd hk hw hP hnq hql hrr ho
    obtain ⟨t1, ht1⟩ : ∃ t1, t1 = (told (valOf vars) (.ok t r)).1 := ⟨_, rfl⟩
    obtain ⟨t2, ht2⟩ : ∃ t2, t2 = (told (valOf vars) (.ok t r)).2 := ⟨_, rfl⟩
    rw [← ht1, ← ht2] at HT
    have H1 := Lib.hid ht1
    have H2 := Lib.hid ht2
    clear ht1 ht2
    go_wp2_with fail
    refine HT.out.mono ?_
    rintro y w2 ⟨rfl, hb⟩
    have HB := Lib.hid (HW.out.trans (hb.mono HW.out.size))
    clear hb
    go_wp2_with fail
    go_ret2
    exact ⟨by rw [← H1.out, ← H2.out]; rfl, HB.out⟩
set_option maxHeartbeats 2000000 in
theorem docR_any (s : List UInt8) (e : UInt8) (A : Option Addr) (n c : Nat) (vars : List (List UInt8 × List UInt8)) (O : Out) (w : World) (hs : s.length ≤ 1099511627776) (hn : n ≤ 4398046511104)
    (hr : Reads w w.heap.size 2 A n (px vars)) (hv : PxLe 140737488355328 vars) (h : Rd e .doc s O) :
    Calls Tryd.prog 14 #[.string ⟨s.toArray⟩, .int .u8 e.toNat, .slice A n c] w (RToldPost (valOf vars) O w) := by
  have HC := Lib.hid (rdoc_all s w.heap.size e (.slice none 0 0) O (w.alloc (.cells #[.string ⟨s.toArray⟩, .int .i64 0, .int .u8 e.toNat, .int .i64 0, .slice none 0 0] 40)) hs (Blk.new w _ _) (World.ownsRow_nil _ _ _ _) h)
  have HR := Lib.hid hr
  have HV := Lib.hid hv
  have HO := Lib.hid h
  clear hr hv h
  go_enter Tryd.func14, Tryd.ntmps14
  go_wp2_with fail
  refine HC.out.mono ?_
  intro x w1 h1
  clear HC
  cases O with
  | err no =>
    obtain ⟨v, t, n1, q, nv, rfl, _, _, _, _, hrd, hk⟩ := h1
    have hw : Below w.heap.size w w1 := ((Below.refl w.heap.size w).alloc (Nat.le_refl _) _).trans (hk.below (by simp))
    have HT := Lib.hid (rtold_bad s q w.heap.size e no nv v (.slice A n c) (valOf vars) w1 hrd (by have := HO.out.no; omega))
    have HW := Lib.hid hw
    unfold RToldPost at HT
    clear hrd hk hw
    go_wp2_with fail
    refine HT.out.mono ?_
    rintro y w2 ⟨rfl, hb⟩
    have HB := Lib.hid (HW.out.trans (hb.mono HW.out.size))
    clear hb
    go_wp2_with fail
    go_ret2
    exact ⟨rfl, HB.out⟩
  | ok t r =>
    obtain ⟨v, n1, q, nv, rfl, hP, hnq, hql, hrr, hrd, ho, hk⟩ := h1
    have hw : Below w.heap.size w w1 := ((Below.refl w.heap.size w).alloc (Nat.le_refl _) _).trans (hk.below (by simp))
    have HT := Lib.hid (rtold_good s q w.heap.size n1 n c _ e nv v t r A vars w1 hrd hP (by have := HO.out.wt; omega) HO.out.ops (by omega) ((HR.out.below hw).more hw.size) hn HV.out)
    have HW := Lib.hid hw
    unfold RToldPost at HT
    clear hrd hk hw hP hnq hql hrr ho
    obtain ⟨t1, ht1⟩ : ∃ t1, t1 = (told (valOf vars) (.ok t r)).1 := ⟨_, rfl⟩
    obtain ⟨t2, ht2⟩ : ∃ t2, t2 = (told (valOf vars) (.ok t r)).2 := ⟨_, rfl⟩
    rw [← ht1, ← ht2] at HT
    have H1 := Lib.hid ht1
    have H2 := Lib.hid ht2
    clear ht1 ht2
    go_wp2_with fail
    refine HT.out.mono ?_
    rintro y w2 ⟨rfl, hb⟩
    have HB := Lib.hid (HW.out.trans (hb.mono HW.out.size))
    clear hb
    go_wp2_with fail
    go_ret2
    exact ⟨by rw [← H1.out, ← H2.out]; rfl, HB.out⟩
end Exp
end Go.Proofs.YtnmnhnhlggbijaaDoor
