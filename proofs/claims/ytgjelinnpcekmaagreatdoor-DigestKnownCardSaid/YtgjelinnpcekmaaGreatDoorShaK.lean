/-
  The walk of a hash's block at this seat's translation: the eight numbers behind 64 bytes.
-/
import Derived.Test.YtgjelinnpcekmaaGreatDoorJS
import Derived.Deep.DeepCutAuto
namespace Go.Proofs.YtgjelinnpcekmaaGreatDoor
open Go.RowKit Sha

/-- The first k numbers added. -/
def addTo (st l : List UInt32) (k : Nat) : List UInt32 := (List.zipWith (· + ·) st l).take k ++ st.drop k
theorem addTo_len {st l : List UInt32} (h : st.length = 8) (hl : l.length = 8) {k : Nat} (hk : k ≤ 8) : (addTo st l k).length = 8 := by simp [addTo, h, hl]; omega
theorem addTo_get {st l : List UInt32} (h : st.length = 8) (hl : l.length = 8) {k : Nat} (hk : k < 8) : (addTo st l k).getD k 0 = st.getD k 0 := by
  unfold addTo
  have e : ((List.zipWith (· + ·) st l).take k).length = k := by simp [h, hl]; omega
  simp only [List.getD, List.getElem?_append_right (show ((List.zipWith (· + ·) st l).take k).length ≤ k by omega), e, Nat.sub_self, List.getElem?_drop, Nat.add_zero]
theorem addTo_set {st l : List UInt32} (h : st.length = 8) (hl : l.length = 8) {k : Nat} (hk : k < 8) : (addTo st l k).set k (st.getD k 0 + l.getD k 0) = addTo st l (k + 1) := by
  unfold addTo
  have e : ((List.zipWith (· + ·) st l).take k).length = k := by simp [h, hl]; omega
  rw [List.set_append_right _ _ (by omega), e, Nat.sub_self, List.drop_eq_getElem_cons (show k < st.length by omega), List.set_cons_zero, List.take_succ_eq_append_getElem (show k < (List.zipWith (· + ·) st l).length by simp [h, hl]; omega), List.append_assoc]
  simp [List.getD, List.getElem?_eq_getElem (show k < st.length by omega), List.getElem?_eq_getElem (show k < l.length by omega)]
theorem addTo_all {st l : List UInt32} (h : st.length = 8) (hl : l.length = 8) : addTo st l 8 = List.zipWith (· + ·) st l := by
  unfold addTo
  rw [List.take_of_length_le (by simp [h, hl]), List.drop_of_length_le (by omega), List.append_nil]
set_option maxRecDepth 100000 in
theorem index8 (x : S8) (k : Nat) (hk : k < 8) (w : World) : (Instr.index 80 (.agg #[W x.a, W x.b, W x.c, W x.d, W x.e, W x.f, W x.g, W x.h]) (.int .i64 k)).run Tryz.prog w = .ok (W (x.list.getD k 0)) w := by
  rcases (by omega : k = 0 ∨ k = 1 ∨ k = 2 ∨ k = 3 ∨ k = 4 ∨ k = 5 ∨ k = 6 ∨ k = 7) with rfl | rfl | rfl | rfl | rfl | rfl | rfl | rfl <;> (go_simp; rfl)
theorem grown_setCell (w : World) (b i : Nat) (v : Value) : w.grownBy (w.setCell ⟨b, i, none⟩ v) (some b) :=
  ⟨rfl, rfl, rfl, by simp [World.setCell], fun k _ hk => Below.heap_setCell _ _ _ _ (fun e => hk (by simp [e]))⟩
/-- The table of the rounds' numbers, as the walk reads it. -/
def KTab (w : World) : Prop := ∀ k, k < 64 → w.cell? ⟨1, k, none⟩ = some (W (kTab.getD k 0))
/-- What block leaves. -/
def BlockPost (w : World) (g : Nat) (z : Int) (st : List UInt32) (rest : List UInt8) (n : Nat) (e : Ending) (w' : World) : Prop :=
  e = .returned (.tuple #[]) ∧ Hsh w' g z (compress st rest) rest n ∧ w.grownBy w' (some g)
set_option maxHeartbeats 8000000 in
set_option maxRecDepth 100000 in
theorem block_any (g : Nat) (z : Int) (st : List UInt32) (rest : List UInt8) (n : Nat) (w : World) (h : Hsh w g z st rest n) (hk : KTab w) (hg : 1 < w.heap.size) :
    Calls Tryz.prog 49 #[.pointer (some ⟨g, 0, none⟩)] w (BlockPost w g z st rest n) := by
  have HH := Lib.hid h
  have HK := Lib.hid hk
  have HG := Lib.hid hg
  clear h hk hg
  go_enter Tryz.func49, Tryz.ntmps49
  go_wp2_with fail
  go_loopw [20] (fun i wr => ∃ k : Nat, k ≤ 16 ∧ i = .int .i64 k ∧ Hid (Arr wr w.heap.size (words rest k)) ∧ Hid (Below w.heap.size w wr)) (fun i _ => 16 - (intOf i).toNat)
  case atStart => exact ⟨0, by omega, rfl, Lib.hid (Blk.new w _ _), Lib.hid ((Below.refl _ _).alloc (Nat.le_refl _) _)⟩
  case round =>
    obtain ⟨k, hk, rfl, HA, HW⟩ := hrel
    by_cases hlt : k < 16
    · have HH1 := Lib.hid (HH.out.below HW.out HH.out.lt)
      have c0 := HH1.out.c_rest (i := 4 * k) (by omega)
      have c1 := HH1.out.c_rest (i := 4 * k + 1) (by omega)
      have c2 := HH1.out.c_rest (i := 4 * k + 2) (by omega)
      have c3 := HH1.out.c_rest (i := 4 * k + 3) (by omega)
      have HWD : Hid (words rest (k + 1) = words rest k ++ [((((rest.getD (4 * k) 0).toUInt32 <<< 24) ||| ((rest.getD (4 * k + 1) 0).toUInt32 <<< 16)) ||| ((rest.getD (4 * k + 2) 0).toUInt32 <<< 8)) ||| (rest.getD (4 * k + 3) 0).toUInt32]) := Lib.hid (words_succ rest k)
      generalize rest.getD (4 * k) 0 = b0 at c0 HWD
      generalize rest.getD (4 * k + 1) 0 = b1 at c1 HWD
      generalize rest.getD (4 * k + 2) 0 = b2 at c2 HWD
      generalize rest.getD (4 * k + 3) 0 = b3 at c3 HWD
      have hal := words_length rest k
      have HAL := Lib.hid hal
      have a0 := HA.out.next (by omega)
      have f0 := HA.out.frozen k
      rw [hal] at a0
      clear hal
      have p4 : 0 ≤ (k : Int) ∧ (k : Int) < 64 := by omega
      have hcv := conv_W
      have hor := or_W
      have hs1 : ∀ x wx, (binOp .shl 79 (W x) (.int .u64 24)).run Tryz.prog wx = .ok (W (x <<< 24)) wx := fun x wx => shl_W x wx .u64 24 (by omega)
      have hs2 : ∀ x wx, (binOp .shl 79 (W x) (.int .u64 16)).run Tryz.prog wx = .ok (W (x <<< 16)) wx := fun x wx => shl_W x wx .u64 16 (by omega)
      have hs3 : ∀ x wx, (binOp .shl 79 (W x) (.int .u64 8)).run Tryz.prog wx = .ok (W (x <<< 8)) wx := fun x wx => shl_W x wx .u64 8 (by omega)
      have hw0 : IntKind.i64.wrap (4 * (k : Int)) = 4 * (k : Int) := IntWalk.i64_in _ (by omega)
      have hw1 : IntKind.i64.wrap (4 * (k : Int) + 1) = 4 * (k : Int) + 1 := IntWalk.i64_in _ (by omega)
      have hw2 : IntKind.i64.wrap (4 * (k : Int) + 2) = 4 * (k : Int) + 2 := IntWalk.i64_in _ (by omega)
      have hw3 : IntKind.i64.wrap (4 * (k : Int) + 3) = 4 * (k : Int) + 3 := IntWalk.i64_in _ (by omega)
      have p0 : 0 ≤ 4 * (k : Int) ∧ 4 * (k : Int) < 64 := by omega
      have p1 : 0 ≤ 4 * (k : Int) + 1 ∧ 4 * (k : Int) + 1 < 64 := by omega
      have p2 : 0 ≤ 4 * (k : Int) + 2 ∧ 4 * (k : Int) + 2 < 64 := by omega
      have p3 : 0 ≤ 4 * (k : Int) + 3 ∧ 4 * (k : Int) + 3 < 64 := by omega
      have t0 : (4 * (k : Int)).toNat = 4 * k := by omega
      have t1 : (4 * (k : Int) + 1).toNat = 4 * k + 1 := by omega
      have t2 : (4 * (k : Int) + 2).toNat = 4 * k + 2 := by omega
      have t3 : (4 * (k : Int) + 3).toNat = 4 * k + 3 := by omega
      go_wp2_with fail
      have hst : ∀ x, (storeCells ⟨w.heap.size, k, none⟩ [W x]).run Tryz.prog wr.drew = .ok () (wr.drew.setCell ⟨w.heap.size, k, none⟩ (W x)) := fun x => store_W (w := wr.drew) x a0 f0
      have HA2 : Hid (∀ x, Arr ((wr.setCell ⟨w.heap.size, k, none⟩ (W x)).drew) w.heap.size (words rest k ++ [x])) := Lib.hid (fun x => by have := HA.out.set (by rw [HAL.out]; omega) x; rw [HAL.out] at this; exact this)
      have HW2 : Hid (∀ x, Below w.heap.size w ((wr.setCell ⟨w.heap.size, k, none⟩ (W x)).drew)) := Lib.hid (fun x => by have h := HW.out.setCell (p := ⟨w.heap.size, k, none⟩) (Nat.le_refl _) (W x); exact ⟨h.os, h.tape, h.output, h.size, h.block⟩)
      go_still_tail 43, (by kernel_rfl)
      change wpList _ _ _ _ _ wr.drew
      go_wp2
      rw [hst]
      go_wp2
      go_roundw
      case rel => exact ⟨k + 1, by omega, by go_num, Lib.hid (by rw [HWD.out]; exact HA2.out _), Lib.hid (HW2.out _)⟩
      case measure => simp [intOf]; omega
    · have HA16 : Hid (Arr wr w.heap.size (sched rest 0)) := Lib.hid (by have h := HA.out; rw [show k = 16 by omega] at h; exact h)
      clear HA
      go_wp2_with fail
      go_loopw [4] (fun i wr => ∃ k : Nat, k ≤ 48 ∧ i = .int .i64 ((k : Int) + 16) ∧ Hid (Arr wr w.heap.size (sched rest k)) ∧ Hid (Below w.heap.size w wr)) (fun i _ => 64 - (intOf i).toNat)
      case atStart => exact ⟨0, by omega, by go_num, HA16, HW⟩
      case round =>
        clear HA16 HW hlt hk
        obtain ⟨k, hk, rfl, HA, HW⟩ := hrel
        by_cases hlt : k < 48
        · have hsl := sched_length rest k
          have HSL := Lib.hid hsl
          have a1 := HA.out.cell (i := k + 1) (by rw [hsl]; omega)
          have a14 := HA.out.cell (i := k + 14) (by rw [hsl]; omega)
          have a0 := HA.out.cell (i := k) (by rw [hsl]; omega)
          have a9 := HA.out.cell (i := k + 9) (by rw [hsl]; omega)
          have an := HA.out.next (by rw [hsl]; omega)
          have fn := HA.out.frozen (k + 16)
          rw [hsl] at an
          clear hsl
          have HEX : Hid (sched rest (k + 1) = sched rest k ++ [(((sched rest k).getD k 0 + (sched rest k).getD (k + 9) 0) + ((rot ((sched rest k).getD (k + 1) 0) 7 ^^^ rot ((sched rest k).getD (k + 1) 0) 18) ^^^ (((sched rest k).getD (k + 1) 0) >>> 3))) + ((rot ((sched rest k).getD (k + 14) 0) 17 ^^^ rot ((sched rest k).getD (k + 14) 0) 19) ^^^ (((sched rest k).getD (k + 14) 0) >>> 10))]) := Lib.hid (by
            rw [sched]
            unfold ext sig0 sig1
            rw [show k + 16 - 16 = k by omega, show k + 16 - 7 = k + 9 by omega, show k + 16 - 15 = k + 1 by omega, show k + 16 - 2 = k + 14 by omega])
          generalize (sched rest k).getD k 0 = x0 at a0 HEX
          generalize (sched rest k).getD (k + 9) 0 = x9 at a9 HEX
          generalize (sched rest k).getD (k + 1) 0 = x1 at a1 HEX
          generalize (sched rest k).getD (k + 14) 0 = x14 at a14 HEX
          have hw15 : IntKind.i64.wrap ((k : Int) + 16 - 15) = (k : Int) + 1 := by rw [show (k : Int) + 16 - 15 = (k : Int) + 1 by omega]; exact IntWalk.i64_in _ (by omega)
          have hw2 : IntKind.i64.wrap ((k : Int) + 16 - 2) = (k : Int) + 14 := by rw [show (k : Int) + 16 - 2 = (k : Int) + 14 by omega]; exact IntWalk.i64_in _ (by omega)
          have hw16 : IntKind.i64.wrap ((k : Int) + 16 - 16) = (k : Int) := by rw [show (k : Int) + 16 - 16 = (k : Int) by omega]; exact IntWalk.i64_in _ (by omega)
          have hw7 : IntKind.i64.wrap ((k : Int) + 16 - 7) = (k : Int) + 9 := by rw [show (k : Int) + 16 - 7 = (k : Int) + 9 by omega]; exact IntWalk.i64_in _ (by omega)
          have p0 : 0 ≤ (k : Int) ∧ (k : Int) < 64 := by omega
          have p1 : 0 ≤ (k : Int) + 1 ∧ (k : Int) + 1 < 64 := by omega
          have p2 : 0 ≤ (k : Int) + 14 ∧ (k : Int) + 14 < 64 := by omega
          have p3 : 0 ≤ (k : Int) + 9 ∧ (k : Int) + 9 < 64 := by omega
          have p4 : 0 ≤ (k : Int) + 16 ∧ (k : Int) + 16 < 64 := by omega
          have t1 : ((k : Int) + 1).toNat = k + 1 := by omega
          have t2 : ((k : Int) + 14).toNat = k + 14 := by omega
          have t3 : ((k : Int) + 9).toNat = k + 9 := by omega
          have t4 : ((k : Int) + 16).toNat = k + 16 := by omega
          go_wp2_with fail
          go_quiet (fail)
          have b0 : (wr.drewN nq).cell? ⟨w.heap.size, k, none⟩ = some (W x0) := a0
          have b9 : (wr.drewN nq).cell? ⟨w.heap.size, k + 9, none⟩ = some (W x9) := a9
          have HA1 : Hid (Arr (wr.drewN nq) w.heap.size (sched rest k)) := HA
          have HW1 : Hid (Below w.heap.size w (wr.drewN nq)) := Lib.hid (by have h := HW.out; exact ⟨h.os, h.tape, h.output, h.size, h.block⟩)
          have an1 : (wr.drewN nq).cell? ⟨w.heap.size, k + 16, none⟩ = some (W 0) := an
          have fn1 : (wr.drewN nq).frozen? ⟨w.heap.size, k + 16, none⟩ = false := fn
          clear a0 a1 a9 a14 an fn HA HW hw15 hw2 p1 p2 t1 t2
          generalize wr.drewN nq = w1 at b0 b9 HA1 HW1 an1 fn1
          have TZ := Lib.hid turnZ
          have ha := add_W
          have hx := xor_W
          have hr3 : ∀ x wx, (binOp .shr 79 (W x) (.int .u64 3)).run Tryz.prog wx = .ok (W (x >>> 3)) wx := fun x wx => shr_W x wx .u64 3 (by omega)
          have hr10 : ∀ x wx, (binOp .shr 79 (W x) (.int .u64 10)).run Tryz.prog wx = .ok (W (x >>> 10)) wx := fun x wx => shr_W x wx .u64 10 (by omega)
          go_wp2_with fail
          refine quiet_tail_lit 29 (by kernel_rfl) (by kernel_rfl) fun LL hLL0 => ?_
          have hLL := Lib.hid hLL0
          clear hLL0
          simp only [List.take_succ_cons, List.take_zero]
          repeat (go_big_quiet_step ((exact Calls.quiet_of (TZ.out _ _ (by decide) (by decide) _))))
          refine wpQuiet_nil ?_
          refine hLL.out _ ?_
          intro w2 hw2
          obtain ⟨nq2, hw2⟩ := hw2
          have an2 : w2.cell? ⟨w.heap.size, k + 16, none⟩ = some (W 0) := by rw [hw2]; exact an1
          have fn2 : w2.frozen? ⟨w.heap.size, k + 16, none⟩ = false := by rw [hw2]; exact fn1
          have HA3 : Hid (∀ x, Arr (w2.setCell ⟨w.heap.size, k + 16, none⟩ (W x)) w.heap.size (sched rest k ++ [x])) := Lib.hid (fun x => by have := HA1.out.set (by rw [HSL.out]; omega) x; rw [HSL.out] at this; rw [hw2]; exact this)
          have HW3 : Hid (∀ x, Below w.heap.size w (w2.setCell ⟨w.heap.size, k + 16, none⟩ (W x))) := Lib.hid (fun x => by rw [hw2]; have h := HW1.out; have h2 : Below w.heap.size w (w1.drewN nq2) := ⟨h.os, h.tape, h.output, h.size, h.block⟩; exact h2.setCell (p := ⟨w.heap.size, k + 16, none⟩) (Nat.le_refl _) (W x))
          have hst : ∀ x, (storeCells ⟨w.heap.size, k + 16, none⟩ [W x]).run Tryz.prog w2 = .ok () (w2.setCell ⟨w.heap.size, k + 16, none⟩ (W x)) := fun x => store_W (w := w2) x an2 fn2
          clear hLL hw2 b0 b9 an1 fn1
          simp only [List.drop_succ_cons, List.drop_zero]
          go_wp2
          rw [hst]
          go_wp2
          go_roundw
          case rel => exact ⟨k + 1, by omega, by go_num, Lib.hid (by rw [HEX.out]; exact HA3.out _), Lib.hid (HW3.out _)⟩
          case measure => simp [intOf]; omega
        · have HA48 : Hid (Arr wr w.heap.size (sched rest 48)) := Lib.hid (by have h := HA.out; rw [show k = 48 by omega] at h; exact h)
          clear HA
          have HH2 := Lib.hid (HH.out.below HW.out HH.out.lt)
          have s0 := HH2.out.c_st (i := 0) (by omega)
          have s1 := HH2.out.c_st (i := 1) (by omega)
          have s2 := HH2.out.c_st (i := 2) (by omega)
          have s3 := HH2.out.c_st (i := 3) (by omega)
          have s4 := HH2.out.c_st (i := 4) (by omega)
          have s5 := HH2.out.c_st (i := 5) (by omega)
          have s6 := HH2.out.c_st (i := 6) (by omega)
          have s7 := HH2.out.c_st (i := 7) (by omega)
          simp only [Nat.reduceAdd] at s0 s1 s2 s3 s4 s5 s6 s7
          have HS8 : Hid (S8.of st = ⟨st.getD 0 0, st.getD 1 0, st.getD 2 0, st.getD 3 0, st.getD 4 0, st.getD 5 0, st.getD 6 0, st.getD 7 0⟩) := Lib.hid rfl
          generalize st.getD 0 0 = y0 at s0 HS8
          generalize st.getD 1 0 = y1 at s1 HS8
          generalize st.getD 2 0 = y2 at s2 HS8
          generalize st.getD 3 0 = y3 at s3 HS8
          generalize st.getD 4 0 = y4 at s4 HS8
          generalize st.getD 5 0 = y5 at s5 HS8
          generalize st.getD 6 0 = y6 at s6 HS8
          generalize st.getD 7 0 = y7 at s7 HS8
          go_wp2_with fail
          go_quiet (fail)
          have HW1 : Hid (Below w.heap.size w (wr.drewN nq)) := Lib.hid (by have h := HW.out; exact ⟨h.os, h.tape, h.output, h.size, h.block⟩)
          have HA1 : Hid (Arr (wr.drewN nq) w.heap.size (sched rest 48)) := HA48
          clear HA48 HW HH2 s0 s1 s2 s3 s4 s5 s6 s7 hlt hk
          generalize wr.drewN nq = w1 at HW1 HA1
          have HK1 : Hid (KTab w1) := Lib.hid (fun k hk => (HW1.out.cell (p := ⟨1, k, none⟩) HG.out).trans (HK.out k hk))
          have HL1 := Lib.hid (sched_length rest 48)
          obtain ⟨ws, hws⟩ : ∃ ws, ws = sched rest 48 := ⟨_, rfl⟩
          have HWS : Hid (∀ m, m = 48 → compress st rest = List.zipWith (· + ·) st (runs (S8.of st) ws 64).list) := Lib.hid (fun m h => by rw [hws]; rfl)
          rw [← hws] at HA1 HL1
          clear hws
          go_wp2_with fail
          go_loopw [7, 8, 9, 10, 11, 12, 13, 14, 148] (fun a b c d e f gg h i wr => ∃ (k : Nat) (x : S8), k ≤ 64 ∧ i = .int .i64 k ∧ a = W x.a ∧ b = W x.b ∧ c = W x.c ∧ d = W x.d ∧ e = W x.e ∧ f = W x.f ∧ gg = W x.g ∧ h = W x.h ∧ Hid (x = runs (S8.of st) ws k) ∧ Hid (∃ m, wr = w1.drewN m)) (fun _ _ _ _ _ _ _ _ i _ => 64 - (intOf i).toNat)
          case atStart => exact ⟨0, ⟨y0, y1, y2, y3, y4, y5, y6, y7⟩, by omega, rfl, rfl, rfl, rfl, rfl, rfl, rfl, rfl, rfl, Lib.hid (by rw [runs, HS8.out]), Lib.hid ⟨0, rfl⟩⟩
          case round =>
            obtain ⟨k, ⟨a, b, c, d, e, f, gg, h⟩, hk, rfl, rfl, rfl, rfl, rfl, rfl, rfl, rfl, rfl, HX, HM⟩ := hrel
            simp only
            by_cases hlt : k < 64
            · have kc : wr.cell? ⟨1, k, none⟩ = some (W (kTab.getD k 0)) := by obtain ⟨m, hm⟩ := HM.out; rw [hm]; exact HK1.out k hlt
              have wc : wr.cell? ⟨w.heap.size, k, none⟩ = some (W (ws.getD k 0)) := by obtain ⟨m, hm⟩ := HM.out; rw [hm]; exact HA1.out.cell (by rw [HL1.out]; omega)
              have HR : Hid (runs (S8.of st) ws (k + 1) = round ⟨a, b, c, d, e, f, gg, h⟩ (kTab.getD k 0) (ws.getD k 0)) := Lib.hid (by rw [runs, ← HX.out])
              generalize kTab.getD k 0 = kk at kc HR
              generalize ws.getD k 0 = ww at wc HR
              have TZ := Lib.hid turnZ
              have ha := add_W
              have hx := xor_W
              have hn := and_W
              have ht := not_W
              have p0 : 0 ≤ (k : Int) ∧ (k : Int) < 64 := by omega
              go_wp2_with fail
              go_quiet ((exact Calls.quiet_of (TZ.out _ _ (by decide) (by decide) _)))
              have HM2 : Hid (∃ m, wr.drewN nq = w1.drewN m) := Lib.hid (by obtain ⟨m, hm⟩ := HM.out; exact ⟨m + nq, by rw [hm, World.drewN_drewN]⟩)
              clear kc wc HM
              generalize wr.drewN nq = w2 at HM2
              go_wp2_with fail
              refine (TZ.out _ _ (by decide) (by decide) _).mono ?_
              rintro e3 w3 ⟨rfl, m3, hw3⟩
              have HM3 : Hid (∃ m, w3 = w1.drewN m) := Lib.hid (by obtain ⟨m, hm⟩ := HM2.out; exact ⟨m + m3, by rw [hw3, hm, World.drewN_drewN]⟩)
              clear hw3 HM2
              go_wp2_with fail
              refine (TZ.out _ _ (by decide) (by decide) _).mono ?_
              rintro e4 w4 ⟨rfl, m4, hw4⟩
              have HM4 : Hid (∃ m, w4 = w1.drewN m) := Lib.hid (by obtain ⟨m, hm⟩ := HM3.out; exact ⟨m + m4, by rw [hw4, hm, World.drewN_drewN]⟩)
              clear hw4 HM3
              go_wp2_with fail
              refine (TZ.out _ _ (by decide) (by decide) _).mono ?_
              rintro e5 w5 ⟨rfl, m5, hw5⟩
              have HM5 : Hid (∃ m, w5 = w1.drewN m) := Lib.hid (by obtain ⟨m, hm⟩ := HM4.out; exact ⟨m + m5, by rw [hw5, hm, World.drewN_drewN]⟩)
              clear hw5 HM4
              go_wp2
              go_roundw
              case rel => exact ⟨k + 1, round ⟨a, b, c, d, e, f, gg, h⟩ kk ww, by omega, by go_num, rfl, rfl, rfl, rfl, rfl, rfl, rfl, rfl, Lib.hid HR.out.symm, HM5⟩
              case measure => simp [intOf]; omega
            · have HXX : Hid ((⟨a, b, c, d, e, f, gg, h⟩ : S8).list = (runs (S8.of st) ws 64).list) := Lib.hid (by rw [HX.out, show k = 64 by omega])
              have HWr : Hid (Below w.heap.size w wr) := Lib.hid (by obtain ⟨m, hm⟩ := HM.out; rw [hm]; have h := HW1.out; exact ⟨h.os, h.tape, h.output, h.size, h.block⟩)
              have HI := Lib.hid (index8 ⟨a, b, c, d, e, f, gg, h⟩)
              have HLL : Hid ((⟨a, b, c, d, e, f, gg, h⟩ : S8).list.length = 8) := Lib.hid rfl
              simp only at HI
              generalize (⟨a, b, c, d, e, f, gg, h⟩ : S8).list = l8 at HXX HI HLL
              have HH3 := Lib.hid (HH.out.below HWr.out HH.out.lt)
              have HGr : Hid (w.grownBy wr (some g)) := Lib.hid (by have h := HWr.out; exact ⟨h.os, h.tape, h.output, h.size, fun k hk _ => h.block k hk⟩)
              have HST := Lib.hid HH.out.l8
              clear HWr HM HX
              go_upto_region 19 with fail
              go_wp2_with (refine wpList_build_as rfl _ _ rfl #[W a, W b, W c, W d, W e, W f, W gg, W h] ?hbuilt ?_; case hbuilt => (simp only [List.map_toArray, List.map_cons, List.map_nil]; exact built8 a b c d e f gg h))
              go_loopw [220] (fun i wr => ∃ k : Nat, k ≤ 8 ∧ i = .int .i64 k ∧ Hid (Hsh wr g z (addTo st l8 k) rest n) ∧ Hid (w.grownBy wr (some g))) (fun i _ => 8 - (intOf i).toNat)
              case atStart => exact ⟨0, by omega, rfl, Lib.hid (by simpa [addTo] using HH3.out), HGr⟩
              case round =>
                clear HH3 HGr
                obtain ⟨j, hj, rfl, HH4, HGr⟩ := hrel
                by_cases hj8 : j < 8
                · have hix := fun wx => HI.out j hj8 wx
                  have cj := HH4.out.c_st (i := j) hj8
                  have fj := HH4.out.frozen (1 + j)
                  rw [addTo_get HST.out HLL.out hj8] at cj
                  have HSE := Lib.hid (addTo_set HST.out HLL.out hj8)
                  generalize l8.getD j 0 = xv at hix HSE
                  generalize st.getD j 0 = sv at cj HSE
                  have ha := add_W
                  have p0 : 0 ≤ (j : Int) ∧ (j : Int) < 8 := by omega
                  go_wp2_with fail
                  refine quiet_tail_lit 11 (by kernel_rfl) (by kernel_rfl) fun LL hLL0 => ?_
                  have hLL := Lib.hid hLL0
                  clear hLL0
                  simp only [List.take_succ_cons, List.take_zero]
                  repeat (go_big_quiet_step (fail))
                  refine wpQuiet_nil ?_
                  refine hLL.out _ ?_
                  intro w2 hw2
                  obtain ⟨nq2, hw2⟩ := hw2
                  have cj2 : w2.cell? ⟨g, 1 + j, none⟩ = some (W sv) := by rw [hw2]; exact cj
                  have fj2 : w2.frozen? ⟨g, 1 + j, none⟩ = false := by rw [hw2]; exact fj
                  have HH5 : Hid (Hsh (w2.setCell ⟨g, 1 + j, none⟩ (W (sv + xv))) g z (addTo st l8 (j + 1)) rest n) := Lib.hid (by rw [hw2]; have h0 : Hsh (wr.drewN nq2) g z (addTo st l8 j) rest n := ⟨HH4.out.blk, HH4.out.l8, HH4.out.l64⟩; have := h0.set_st hj8 (sv + xv); rw [HSE.out] at this; exact this)
                  have HG2 : Hid (w.grownBy (w2.setCell ⟨g, 1 + j, none⟩ (W (sv + xv))) (some g)) := Lib.hid (by
                    rw [hw2]
                    have h := HGr.out
                    have h2 : w.grownBy (wr.drewN nq2) (some g) := ⟨h.os, h.tape, h.output, h.size, h.block⟩
                    exact h2.trans (grown_setCell _ _ _ _))
                  have hst : ∀ x, (storeCells ⟨g, 1 + j, none⟩ [W x]).run Tryz.prog w2 = .ok () (w2.setCell ⟨g, 1 + j, none⟩ (W x)) := fun x => store_W (w := w2) x cj2 fj2
                  clear hLL hw2 cj fj cj2 fj2
                  simp only [List.drop_succ_cons, List.drop_zero]
                  go_wp2
                  rw [hst]
                  go_wp2
                  go_roundw
                  case rel => exact ⟨j + 1, by omega, by go_num, HH5, HG2⟩
                  case measure => simp [intOf]; omega
                · have hj : j = 8 := by omega
                  have HP : Hid (BlockPost w g z st rest n (.returned (.tuple #[])) wr) := Lib.hid ⟨rfl, by
                    have h := HH4.out
                    rw [hj, addTo_all HST.out HLL.out, HXX.out, ← HWS.out 48 rfl] at h
                    exact h, HGr.out⟩
                  go_wp2
                  go_end0
                  exact HP.out
end Go.Proofs.YtgjelinnpcekmaaGreatDoor
