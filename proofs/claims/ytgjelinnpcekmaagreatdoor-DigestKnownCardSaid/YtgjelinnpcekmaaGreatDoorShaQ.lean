/-
  The walk of strataref03.padded at this seat's translation: a text with what is laid behind it.
-/
import Derived.Test.YtgjelinnpcekmaaGreatDoorJS
import Derived.Test.YtgjelinnpcekmaaGreatDoorByR
import Derived.Deep.DeepCutAuto
import Derived.IntWalk
namespace Go.Proofs.YtgjelinnpcekmaaGreatDoor
open Go.RowKit Sha

theorem info5z : ∃ i5 : TypeInfo, Tryz.prog.info? 5 = some i5 ∧ i5.zero = some (.int .u8 0) ∧ i5.size = 1 ∧ i5.bytes = 1 := by
  have h : (Tryz.prog.info? 5).map (fun i => (i.zero, i.size, i.bytes)) = some (some (.int .u8 0), 1, 1) := by kernel_rfl
  cases hq : Tryz.prog.info? 5 with
  | none => rw [hq] at h; cases h
  | some i => rw [hq] at h; simp only [Option.map_some, Option.some.injEq, Prod.mk.injEq] at h; exact ⟨i, rfl, h.1, h.2.1, h.2.2⟩
theorem cell_new1 (w : World) (u : Value) (t : TypeId) : (w.alloc (.cells #[u] t)).cell? ⟨w.heap.size, 0, none⟩ = some u := by
  rw [cell_of_row _ _ 0 #[u] t (0, 0) (heap_alloc_new w _)]; rfl
theorem wpList_convert_at {P : Program} (w : World) {ops : Array Oper} {rest : List Oper} {o : Oper} {a : Act} {Q : Exit → Act → World → Prop} (hgd : o.guard = none) (x : Operand) (t t' : TypeId)
    (ho : o.op = .convert t t' x) (u : Value) (hu : a.eval x = u) {v' : Value} {w' : World} (hr : (convert t t' u).run P w = .ok v' w') (h : wpList P ops Q rest (a.put o.dst v') w') : wpList P ops Q (o :: rest) a w :=
  wpList_plain hgd fun _ hK => by
    unfold Oper.wp execOp
    simp only [ho, Sem.run_bind, Sem.run_pure, Result.andThen_ok, hu, hr]
    exact hK _ _ h
/-- What padded leaves. -/
def PadPost (w : World) (s : List UInt8) (e : Ending) (w' : World) : Prop :=
  ∃ v, e = .returned v ∧ RowG w' w.heap.size 5 v ((s ++ pad s.length).map U8) ∧ Below w.heap.size w w'
def lenOfV (v : Value) : Nat := match v with | .slice _ n _ => n | _ => 0
theorem RowG.lenV {w : World} {base : Nat} {e : TypeId} {v : Value} {xs : List Value} (h : RowG w base e v xs) : lenOfV v = xs.length := by
  obtain ⟨g, cap, cur, fz, rfl, _⟩ := h
  rfl
theorem be_len (n t : Nat) (ht : t ≤ 8) : ((be64 n).take t).length = t := by simp [be64]; omega
theorem be_step (n t m : Nat) (ht : t < 8) (hm : 8 * m = 56 - 8 * t) : ((be64 (8 * n)).take t).map U8 ++ [Value.int .u8 ((8 * (n : Int)) / 2 ^ (8 * m) % 256)] = ((be64 (8 * n)).take (t + 1)).map U8 := by
  have e : (be64 (8 * n)).take (t + 1) = (be64 (8 * n)).take t ++ [UInt8.ofNat (8 * n / 2 ^ (8 * m))] := by
    rw [List.take_succ_eq_append_getElem (by simp [be64]; omega)]
    simp [be64, hm]
  rw [e, List.map_append]
  congr 1
set_option maxHeartbeats 8000000 in
set_option maxRecDepth 100000 in
theorem padded_any (s : List UInt8) (w : World) (hs : s.length ≤ 70368744177664) :
    Calls Tryz.prog 51 #[.string ⟨s.toArray⟩] w (PadPost w s) := by
  obtain ⟨i5, hi5, hz5, hs5, hb5⟩ := info5z
  go_enter Tryz.func51, Tryz.ntmps51
  have hcv := fun wx => run_bytes_of_string (P := Tryz.prog) wx 9 30 5 ⟨s.toArray⟩ Tryz.underlying9 Tryz.underlying30 Tryz.underlying5
  have hcap := grownCap_ge w s.length 0 5
  have hcm := grownCap_le_maxLen w s.length 0 5 (by unfold maxLen; omega)
  have hm0 := RowG.made (e := 5) w (Nat.le_refl w.heap.size) s _ hcap hcm
  have e0 : (⟨s.toArray⟩ : ByteArray).size = s.length := by simp [ByteArray.size]
  rw [e0] at hcv
  have hcw := hcv w
  generalize grownCap w s.length 0 5 = cap at hcw hm0
  have hbB : Below w.heap.size w (w.drew.alloc (.cells (bytesRow ⟨s.toArray⟩ cap) 5 ((bytesRow ⟨s.toArray⟩ cap).size, (bytesRow ⟨s.toArray⟩ cap).size + 1))) := (show Below w.heap.size w w.drew from ⟨rfl, rfl, rfl, Nat.le_refl _, fun _ _ => rfl⟩).alloc (Nat.le_refl _) _
  generalize (w.drew.alloc (.cells (bytesRow ⟨s.toArray⟩ cap) 5 ((bytesRow ⟨s.toArray⟩ cap).size, (bytesRow ⟨s.toArray⟩ cap).size + 1))) = wB at hcw hm0 hbB
  clear hcv hcap hcm
  have HM0 := Lib.hid hm0
  have HBB := Lib.hid hbB
  clear hm0 hbB
  go_wp2_with (first
    | (refine wpList_convert_at _ rfl _ 9 30 rfl _ rfl hcw ?_)
    | (refine wpList_append_G rfl _ _ 30 rfl i5 (.int .u8 0) Tryz.underlying30 hi5 hz5 hs5 hb5 rfl rfl (HM0.out.alloc _) ⟨wB.heap.size, 0, none⟩ 1 (.int .u8 128) rfl (cell_new1 _ _ _) rfl (by simp; omega) (by have := HBB.out.size; simp; omega) ?_; intro v1 w1 hr1 hg1))
  have HB1 : Hid (Below w.heap.size w w1) := Lib.hid (Below.grown (HBB.out.alloc HBB.out.size _) hg1 (by have := HBB.out.size; simp; omega) (fun j hj => by
    obtain ⟨g, h1, h2, _⟩ := HM0.out.own
    injection (h1.symm.trans hj) with hj; omega))
  have HX1 : Hid (RowG w1 w.heap.size 5 v1 ((s ++ 128 :: List.replicate 0 0).map U8)) := Lib.hid (by
    have := hr1
    rw [show (s.map fun b => Value.int .u8 b.toNat) ++ [Value.int .u8 128] = (s ++ 128 :: List.replicate 0 0).map U8 by simp [U8]] at this
    exact this)
  clear hg1 hr1 HM0 HBB
  obtain ⟨A1, c1, rfl, _⟩ := HX1.out.reads
  have hl1 : ((s ++ 128 :: List.replicate 0 0).map U8).length = s.length + 1 + 0 := by simp
  rw [hl1] at HX1
  rw [hl1, Nat.add_zero]
  clear hl1
  go_loopw [3] (fun v wr => ∃ (j : Nat) (A : Option Addr) (c : Nat), j ≤ zeros s.length ∧ v = .slice A (s.length + 1 + j) c ∧ Hid (RowG wr w.heap.size 5 (.slice A (s.length + 1 + j) c) ((s ++ 128 :: List.replicate j 0).map U8)) ∧ Hid (Below w.heap.size w wr)) (fun v _ => s.length + 65 - lenOfV v)
  case atStart => exact ⟨0, A1, c1, by omega, rfl, HX1, HB1⟩
  case round =>
    clear HX1 HB1
    obtain ⟨j, A, c, hj, rfl, HX, HB⟩ := hrel
    have HZ0 : Hid (zeros s.length = (119 - s.length % 64) % 64) := Lib.hid rfl
    have hm : (((s.length + 1 + j : Nat) : Int)).tmod 64 = (((s.length + 1 + j) % 64 : Nat) : Int) := (Int.ofNat_tmod _ 64).symm
    by_cases hlt : (s.length + 1 + j) % 64 = 56
    · have hq : ((((s.length + 1 + j) % 64 : Nat) : Int) != 56) = false := by rw [hlt]; rfl
      have HJ : Hid (j = zeros s.length) := Lib.hid (by have := HZ0.out; omega)
      go_wp2_with fail
      have hz64 : zeros s.length < 64 := by have := HZ0.out; omega
      have hj1 : s.length + 1 + j = s.length + 1 + zeros s.length := by rw [HJ.out]
      have HX1 : Hid (RowG wr w.heap.size 5 (.slice A (s.length + 1 + zeros s.length) c) ((s ++ 128 :: List.replicate (zeros s.length) 0).map U8 ++ ((be64 (8 * s.length)).take 0).map U8)) := Lib.hid (by have := HX.out; rw [HJ.out] at this; simpa using this)
      have HLX : Hid (((s ++ 128 :: List.replicate (zeros s.length) 0).map U8).length = s.length + 1 + zeros s.length) := Lib.hid (by simp; omega)
      have HFX : Hid ((s ++ 128 :: List.replicate (zeros s.length) 0).map U8 ++ (be64 (8 * s.length)).map U8 = (s ++ pad s.length).map U8) := Lib.hid (by simp [pad])
      rw [hj1]
      clear HX hj1 hm hlt hq hj HJ
      generalize (s ++ 128 :: List.replicate (zeros s.length) 0).map U8 = X at HX1 HLX HFX
      generalize zeros s.length = zz at HX1 HLX hz64 HZ0
      generalize (((s.length : Int) + 1 + (j : Int)) % 64 != 56) = bq
      generalize ((s.length : Int) + 1 + (j : Int)) = iq
      go_loopw [3, 4] (fun v i wr => ∃ (t : Nat) (A : Option Addr) (c : Nat), t ≤ 8 ∧ i = .int .i64 (7 - (t : Int)) ∧ v = .slice A (s.length + 1 + zz + t) c ∧ Hid (RowG wr w.heap.size 5 (.slice A (s.length + 1 + zz + t) c) (X ++ ((be64 (8 * s.length)).take t).map U8)) ∧ Hid (Below w.heap.size w wr)) (fun _ i _ => (intOf i + 1).toNat)
      case atStart => exact ⟨0, A, c, by omega, rfl, rfl, HX1, HB⟩
      case round =>
        clear HX1 HB
        obtain ⟨t, A, c, ht, rfl, rfl, HX, HB⟩ := hrel
        by_cases hlt : t < 8
        · obtain ⟨m, hm⟩ : ∃ m : Nat, (7 : Int) - (t : Int) = (m : Int) := ⟨7 - t, by omega⟩
          rw [hm]
          have hw1 : IntKind.i64.wrap (8 * (s.length : Int)) = 8 * (s.length : Int) := IntWalk.i64_in _ (by omega)
          have hw2 : IntKind.i64.wrap (8 * (m : Int)) = 8 * (m : Int) := IntWalk.i64_in _ (by omega)
          have HXL : Hid ((X ++ ((be64 (8 * s.length)).take t).map U8).length = s.length + 1 + zz + t) := Lib.hid (by rw [List.length_append, HLX.out, List.length_map, be_len _ _ ht])
          have HNX : Hid ((X ++ ((be64 (8 * s.length)).take t).map U8) ++ [Value.int .u8 ((8 * (s.length : Int)) / 2 ^ (8 * m) % 256)] = X ++ ((be64 (8 * s.length)).take (t + 1)).map U8) := Lib.hid (by rw [List.append_assoc, be_step _ _ _ hlt (by omega)])
          have HN2 : Hid ((X ++ ((be64 (8 * s.length)).take (t + 1)).map U8).length = s.length + 1 + zz + (t + 1)) := Lib.hid (by rw [List.length_append, HLX.out, List.length_map, be_len _ _ (by omega)])
          generalize X ++ ((be64 (8 * s.length)).take t).map U8 = Y at HX HXL HNX
          obtain ⟨Y2, hY2⟩ : ∃ Y2, Y2 = X ++ ((be64 (8 * s.length)).take (t + 1)).map U8 := ⟨_, rfl⟩
          rw [← hY2] at HNX HN2
          have HY2e := Lib.hid hY2
          clear hY2
          have hmm : (m : Int) ≥ 0 := by omega
          go_wp2_with (refine wpList_append_G rfl _ _ 30 rfl i5 (.int .u8 0) Tryz.underlying30 hi5 hz5 hs5 hb5 rfl rfl (HX.out.alloc _) ⟨wr.heap.size, 0, none⟩ 1 (.int .u8 ((8 * (s.length : Int)) / 2 ^ (8 * m) % 256)) rfl (cell_new1 _ _ _) rfl (by rw [HXL.out]; omega) (by have := HB.out.size; simp; omega) ?_; intro v2 w2 hr2 hg2)
          have HB2 : Hid (Below w.heap.size w w2) := Lib.hid (Below.grown (HB.out.alloc HB.out.size _) hg2 (by have := HB.out.size; simp; omega) (fun j hj => by
            obtain ⟨g, h1, h2, _⟩ := HX.out.own
            injection (h1.symm.trans hj) with hj; omega))
          rw [HNX.out] at hr2
          obtain ⟨A2, c2, hv, _⟩ := hr2.reads
          rw [HN2.out] at hv
          subst hv
          have HX2 := Lib.hid hr2
          clear hr2 hg2
          go_roundw
          case rel => exact ⟨t + 1, A2, c2, by omega, by (congr 1; omega), rfl, by rw [← HY2e.out]; exact HX2, HB2⟩
          case measure => simp [intOf]
        · have ht8 : t = 8 := by omega
          subst ht8
          have HP : Hid (PadPost w s (.returned (.slice A (s.length + 1 + zz + 8) c)) wr) := Lib.hid ⟨_, rfl, by
            have := HX.out
            rw [List.take_of_length_le (by simp [be64]), HFX.out] at this
            exact this, HB.out⟩
          go_wp2
          go_ret
          exact HP.out
    · have hq : ((((s.length + 1 + j) % 64 : Nat) : Int) != 56) = true := by simp; omega
      have hjz : j < zeros s.length := by have := HZ0.out; omega
      have hj64 : j < 64 := by have := HZ0.out; omega
      have HXL : Hid (((s ++ 128 :: List.replicate j 0).map U8).length = s.length + 1 + j) := Lib.hid (by simp; omega)
      have HNX : Hid ((s ++ 128 :: List.replicate j 0).map U8 ++ [Value.int .u8 0] = (s ++ 128 :: List.replicate (j + 1) 0).map U8) := Lib.hid (by rw [List.replicate_succ']; simp [U8])
      have HN2 : Hid (((s ++ 128 :: List.replicate (j + 1) 0).map U8).length = s.length + 1 + (j + 1)) := Lib.hid (by simp; omega)
      generalize (s ++ 128 :: List.replicate j 0).map U8 = X at HX HXL HNX
      obtain ⟨X2, hX2⟩ : ∃ X2, X2 = (s ++ 128 :: List.replicate (j + 1) 0).map U8 := ⟨_, rfl⟩
      rw [← hX2] at HNX HN2
      have HX2e := Lib.hid hX2
      clear hX2
      go_wp2_with (refine wpList_append_G rfl _ _ 30 rfl i5 (.int .u8 0) Tryz.underlying30 hi5 hz5 hs5 hb5 rfl rfl (HX.out.alloc _) ⟨wr.heap.size, 0, none⟩ 1 (.int .u8 0) rfl (cell_new1 _ _ _) rfl (by rw [HXL.out]; omega) (by have := HB.out.size; simp; omega) ?_; intro v2 w2 hr2 hg2)
      have HB2 : Hid (Below w.heap.size w w2) := Lib.hid (Below.grown (HB.out.alloc HB.out.size _) hg2 (by have := HB.out.size; simp; omega) (fun j hj => by
        obtain ⟨g, h1, h2, _⟩ := HX.out.own
        injection (h1.symm.trans hj) with hj; omega))
      rw [HNX.out] at hr2
      obtain ⟨A2, c2, rfl, _⟩ := hr2.reads
      rw [HN2.out] at hr2
      have HX2 := Lib.hid hr2
      rw [HN2.out]
      clear hr2 hg2
      go_wp2
      go_roundw
      case rel => exact ⟨j + 1, A2, c2, by omega, rfl, by rw [← HX2e.out]; exact HX2, HB2⟩
      case measure => simp [lenOfV]; omega
end Go.Proofs.YtgjelinnpcekmaaGreatDoor
