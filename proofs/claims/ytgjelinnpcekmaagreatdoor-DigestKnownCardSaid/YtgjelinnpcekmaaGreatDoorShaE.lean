/-
  The walks of strataref03.turn and strataref03.block at this seat's translation.
-/
import Derived.Test.YtgjelinnpcekmaaGreatDoorJS
import Derived.Test.YtgjelinnpcekmaaGreatDoorShaQ
import Derived.Test.YtgjelinnpcekmaaGreatDoorApa
import Derived.Deep.DeepCutAuto
import Derived.Deep.RegionHeld3
namespace Go.Proofs.YtgjelinnpcekmaaGreatDoor
open Go.RowKit Sha

theorem rturn_any (x : UInt32) (n : Nat) (h1 : 1 ≤ n) (h2 : n ≤ 31) (w : World) : Calls Tryz.prog 65 #[W x, .int .i64 n] w (Quiet (W (rot x n)) w) := by
  have f1 : ∀ wx, (binOp .shr 79 (W x) (.int .i64 n)).run Tryz.prog wx = .ok (W (x >>> UInt32.ofNat n)) wx := fun wx => shr_W x wx .i64 n (by omega)
  have f2 : ∀ wx, (binOp .shl 79 (W x) (.int .i64 (32 - (n : Int)))).run Tryz.prog wx = .ok (W (x <<< UInt32.ofNat (32 - n))) wx := fun wx => by
    rw [show (32 - (n : Int)) = ((32 - n : Nat) : Int) by omega]
    exact shl_W x wx .i64 (32 - n) (by omega)
  have f3 := or_W
  have hw : IntKind.i64.wrap (32 - (n : Int)) = 32 - (n : Int) := IntWalk.i64_in _ (by omega)
  clear h1 h2
  go_enter Tryz.func65, Tryz.ntmps65
  go_wp2_with fail
  go_quiet (fail)
  go_wp2
  go_ret
  exact ⟨rfl, _, rfl⟩
theorem rturnZ (x : UInt32) (z : Int) (h1 : 1 ≤ z) (h2 : z ≤ 31) (w : World) : Calls Tryz.prog 65 #[W x, .int .i64 z] w fun e w' => e = .returned (W (rot x z.toNat)) ∧ ∃ m, w' = w.drewN m := by
  have h := rturn_any x z.toNat (by omega) (by omega) w
  rw [show (z.toNat : Int) = z by omega] at h
  exact h
theorem all8 (a b c d e f g h : UInt32) : (#[W a, W b, W c, W d, W e, W f, W g, W h] : Array Value).all (·.oneCell') = true := by
  have h1 : ∀ x, (W x).oneCell' = true := fun _ => rfl
  simp [h1]
theorem own_base {w : World} {base base' : Nat} {e : TypeId} {size : Nat} {v : Value} {n : Nat} {xs : List Value} (h : w.ownsRow base e size v n xs) (hb : base' ≤ base) : w.ownsRow base' e size v n xs :=
  ⟨h.1, h.2.imp id fun ⟨g, cap, cur, e, hg, r⟩ => ⟨g, cap, cur, e, Nat.le_trans hb hg, r⟩⟩
theorem u32One : (Tryz.prog.info? 79).map (·.size) = some 1 := by kernel_rfl
theorem infoU32 : ∃ i : TypeInfo, Tryz.prog.info? 79 = some i ∧ i.zero = some (.int .u32 0) ∧ i.size = 1 ∧ i.bytes = 4 := by
  have h : (Tryz.prog.info? 79).map (fun i => (i.zero, i.size, i.bytes)) = some (some (.int .u32 0), 1, 4) := by kernel_rfl
  cases hq : Tryz.prog.info? 79 with
  | none => rw [hq] at h; cases h
  | some i => rw [hq] at h; simp only [Option.map_some, Option.some.injEq, Prod.mk.injEq] at h; exact ⟨i, rfl, h.1, h.2.1, h.2.2⟩
/-- The reference's table of the rounds' numbers. -/
def RTab (w : World) : Prop := ∀ k, k < 64 → w.cell? ⟨2, k, none⟩ = some (W (kTab.getD k 0))
theorem RTab.lt {w : World} (h : RTab w) : 2 < w.heap.size := block_lt_of_cell (h 0 (by omega))
theorem RTab.below {w w' : World} {B : Nat} (hk : RTab w) (hb : Below B w w') (hg : 2 < B) : RTab w' := fun k h => (hb.cell (p := ⟨2, k, none⟩) hg).trans (hk k h)
/-- What the reference's block leaves. -/
def RBlockPost (w : World) (st : List UInt32) (rest : List UInt8) (e : Ending) (w' : World) : Prop :=
  ∃ v, e = .returned v ∧ w'.ownsRow w.heap.size 79 1 v 8 ((compress st rest).map W) ∧ Below w.heap.size w w'
theorem ext_ref (w : List UInt32) (t : Nat) : ext w t = ((sig1 (w.getD (t - 2) 0) + w.getD (t - 7) 0) + sig0 (w.getD (t - 15) 0)) + w.getD (t - 16) 0 := by
  unfold ext
  ac_rfl
theorem add_succ (a : Addr) (n : Nat) : a.add (n + 1) = ⟨a.block, a.off + (n + 1), none⟩ := by simp [Addr.add]
theorem cell_oneN (w : World) (u : Value) (t : TypeId) : ∀ (j : Nat) (x : Value), [u][j]? = some x → (w.alloc (.cells #[u] t)).cell? ((⟨w.heap.size, 0, none⟩ : Addr).add j) = some x := by
  intro j x hx
  match j, hx with
  | 0, hx =>
    simp only [List.getElem?_cons_zero, Option.some.injEq] at hx
    rw [← hx]
    exact cell_new1 w u t
theorem slice1_W (x : UInt32) (w : World) : (Instr.buildSlice 89 1 #[(0, W x)]).run Tryz.prog w = .ok (.slice (some ⟨w.heap.size, 0, none⟩) 1 1) (w.alloc (.cells #[W x] 79)) := by
  unfold W
  go_simp
section
variable {ops : Array Oper} {o : Oper} {a : Act} {w : World} {K : Act → World → Prop} {Q : Exit → Act → World → Prop}
theorem wp_slice1 (x : Operand) (ho : o.op = .buildSlice 89 1 #[(0, x)]) (u : UInt32) (hx : a.eval x = W u)
    (h : K (a.put o.dst (.slice (some ⟨w.heap.size, 0, none⟩) 1 1)) (w.alloc (.cells #[W u] 79))) : Oper.wp Tryz.prog o a w K Q := by
  have hr := slice1_W u w
  unfold Oper.wp execOp
  simp only [ho, Sem.run_bind, Sem.run_pure, Result.andThen_ok, List.map_toArray, List.map_cons, List.map_nil, hx, hr]
  exact h
theorem wpList_slice1 {rest : List Oper} (hgd : o.guard = none) (x : Operand) (ho : o.op = .buildSlice 89 1 #[(0, x)]) (u : UInt32) (hx : a.eval x = W u)
    (h : wpList Tryz.prog ops Q rest (a.put o.dst (.slice (some ⟨w.heap.size, 0, none⟩) 1 1)) (w.alloc (.cells #[W u] 79))) : wpList Tryz.prog ops Q (o :: rest) a w :=
  wpList_plain hgd fun _ hK => wp_slice1 x ho u hx (hK _ _ h)
theorem step_slice1 {E : Prop} (hgd : o.guard = none) (x : Operand) (ho : o.op = .buildSlice 89 1 #[(0, x)]) (u : UInt32) (hx : a.eval x = W u)
    (h : K (a.put o.dst (.slice (some ⟨w.heap.size, 0, none⟩) 1 1)) (w.alloc (.cells #[W u] 79))) : if Region.wanted o (yielded ops a.tmps) = true then Oper.wp Tryz.prog o a w K Q else E := by
  have hw : Region.wanted o (yielded ops a.tmps) = true := by simp [Region.wanted, hgd]
  rw [if_pos hw]
  exact wp_slice1 x ho u hx h
/-- One number more behind a row of the call's own. -/
theorem step_append1 {E : Prop} {base n : Nat} {v : Value} {xs : List Value} (hgd : o.guard = none) (s x : Operand)
    (ho : o.op = .call { callee := .builtin .append, args := #[s, x], argTypes := #[89, 89] }) (hs : a.eval s = v) (g : Nat) (u : UInt32) (hx : a.eval x = .slice (some ⟨g, 0, none⟩) 1 1)
    (hc : w.cell? ⟨g, 0, none⟩ = some (W u)) (hown : w.ownsRow base 79 1 v n xs) (hn : n + 1 ≤ 35184372088832) (hbase : base ≤ w.heap.size)
    (h : ∀ v' w', w'.ownsRow base 79 1 v' (n + 1) (xs ++ [W u]) → w.grownBy w' v.ownBlock → w'.ownsRow base 79 1 v n xs → K (a.put o.dst v') w') : if Region.wanted o (yielded ops a.tmps) = true then Oper.wp Tryz.prog o a w K Q else E := by
  have hw : Region.wanted o (yielded ops a.tmps) = true := by simp [Region.wanted, hgd]
  rw [if_pos hw]
  obtain ⟨i0, hi0, hz0, hs0, hb0⟩ := infoU32
  obtain ⟨v', w', hr, h2, h3, h4, _⟩ := run_append_keep (P := Tryz.prog) w base 89 o.type 79 i0 (.int .u32 0) 1 4 Tryz.underlying89 hi0 hz0 hs0 hb0 rfl (by decide) v n xs hown ⟨g, 0, none⟩ 1 1 [W u] rfl (by
    intro j y hy
    match j, hy with
    | 0, hy =>
      simp only [List.getElem?_cons_zero, Option.some.injEq] at hy
      rw [← hy]; exact hc) (by intro y hy; simp at hy; subst hy; rfl) (by unfold maxLen; omega) (by omega) hbase (by decide)
  unfold Oper.wp execOp
  simp only [ho, resolve, invoke, builtin, Sem.run_bind, Sem.run_pure, Result.andThen_ok, List.map_toArray, List.map_cons, List.map_nil, hs, hx, hr]
  exact h v' w' h2 h3 h4
end
theorem map_get {l : List UInt32} {j : Nat} (h : j < l.length) : (l.map W)[j]? = some (W (l.getD j 0)) := by
  simp [List.getD, List.getElem?_eq_getElem h]
theorem map_get8 {l : List UInt8} {j : Nat} (h : j < l.length) : (l.map U8)[j]? = some (U8 (l.getD j 0)) := by
  simp [List.getD, List.getElem?_eq_getElem h]
set_option maxHeartbeats 8000000 in
set_option maxRecDepth 100000 in
theorem rblock_any (st : List UInt32) (rest : List UInt8) (A A' : Option Addr) (c c' : Nat) (w : World) (hr : Reads w w.heap.size 1 A 8 (st.map W)) (hr' : Reads w w.heap.size 1 A' 64 (rest.map U8)) (hk : RTab w) :
    Calls Tryz.prog 52 #[.slice A 8 c, .slice A' 64 c'] w (RBlockPost w st rest) := by
  obtain ⟨i0, hi0, hz0, hs0, hb0⟩ := infoU32
  have HR := Lib.hid hr
  have HR' := Lib.hid hr'
  have HK := Lib.hid hk
  have h8 : st.length = 8 := by have := hr.1; simpa using this
  have h64 : rest.length = 64 := by have := hr'.1; simpa using this
  have H8 := Lib.hid h8
  have H64 := Lib.hid h64
  obtain ⟨ah, rfl, hah, _⟩ := hr.2 (by omega)
  have HAHB := Lib.hid hah
  clear hah
  obtain ⟨ab, rfl, hab, _⟩ := hr'.2 (by omega)
  have HAB := Lib.hid hab
  clear hab
  clear hr hr' hk h8 h64
  go_enter Tryz.func52, Tryz.ntmps52
  go_wp2_with fail
  go_loopw [5, 6] (fun v i wr => ∃ k : Nat, k ≤ 16 ∧ i = .int .i64 k ∧ Hid (wr.ownsRow w.heap.size 79 1 v k ((words rest k).map W)) ∧ Hid (Below w.heap.size w wr)) (fun _ i _ => 16 - (intOf i).toNat)
  case atStart => exact ⟨0, by omega, rfl, Lib.hid (World.ownsRow_nil _ _ _ _), Lib.hid (Below.refl _ _)⟩
  case round =>
    obtain ⟨k, hk, rfl, HO, HW⟩ := hrel
    by_cases hlt : k < 16
    · have HCB : Hid (∀ j, j < 64 → wr.cell? (ab.add j) = some (U8 (rest.getD j 0))) := Lib.hid (fun j hj => by
        obtain ⟨ad, h1, _, h3⟩ := (HR'.out.below HW.out).2 (by omega)
        injection h1 with h1
        rw [h1]; exact h3 j _ (map_get8 (by rw [H64.out]; exact hj)))
      have c0 := HCB.out (4 * k) (by omega)
      have c1 := HCB.out (4 * k + 1) (by omega)
      rw [add_succ] at c1
      have c2 : wr.cell? ⟨ab.block, ab.off + (4 * k + 2), none⟩ = _ := (congrArg _ (add_succ ab (4 * k + 1)).symm).trans (HCB.out (4 * k + 2) (by omega))
      have c3 : wr.cell? ⟨ab.block, ab.off + (4 * k + 3), none⟩ = _ := (congrArg _ (add_succ ab (4 * k + 2)).symm).trans (HCB.out (4 * k + 3) (by omega))
      have HWD : Hid (words rest (k + 1) = words rest k ++ [((((rest.getD (4 * k) 0).toUInt32 <<< 24) ||| ((rest.getD (4 * k + 1) 0).toUInt32 <<< 16)) ||| ((rest.getD (4 * k + 2) 0).toUInt32 <<< 8)) ||| (rest.getD (4 * k + 3) 0).toUInt32]) := Lib.hid (words_succ rest k)
      generalize rest.getD (4 * k) 0 = b0 at c0 HWD
      generalize rest.getD (4 * k + 1) 0 = b1 at c1 HWD
      generalize rest.getD (4 * k + 2) 0 = b2 at c2 HWD
      generalize rest.getD (4 * k + 3) 0 = b3 at c3 HWD
      have hcv := conv_W
      have hor1 := or_W (b0.toUInt32 <<< 24) (b1.toUInt32 <<< 16)
      have hor2 := or_W (b0.toUInt32 <<< 24 ||| b1.toUInt32 <<< 16) (b2.toUInt32 <<< 8)
      have hor3 : ∀ wx, (binOp .or 79 (W (b0.toUInt32 <<< 24 ||| b1.toUInt32 <<< 16 ||| b2.toUInt32 <<< 8)) (W b3.toUInt32)).run Tryz.prog wx = .ok (.int .u32 ((b0.toUInt32 <<< 24 ||| b1.toUInt32 <<< 16 ||| b2.toUInt32 <<< 8 ||| b3.toUInt32).toNat : Nat)) wx := fun wx => or_W _ _ wx
      have HXE : Hid (∃ X : UInt32, X = (b0.toUInt32 <<< 24 ||| b1.toUInt32 <<< 16 ||| b2.toUInt32 <<< 8 ||| b3.toUInt32)) := Lib.hid ⟨_, rfl⟩
      obtain ⟨X, hX⟩ := HXE.out
      rw [← hX] at hor3 HWD
      clear HXE hX
      have hs1 : ∀ x wx, (binOp .shl 79 (W x) (.int .u64 24)).run Tryz.prog wx = .ok (W (x <<< 24)) wx := fun x wx => shl_W x wx .u64 24 (by omega)
      have hs2 : ∀ x wx, (binOp .shl 79 (W x) (.int .u64 16)).run Tryz.prog wx = .ok (W (x <<< 16)) wx := fun x wx => shl_W x wx .u64 16 (by omega)
      have hs3 : ∀ x wx, (binOp .shl 79 (W x) (.int .u64 8)).run Tryz.prog wx = .ok (W (x <<< 8)) wx := fun x wx => shl_W x wx .u64 8 (by omega)
      have hw0 : IntKind.i64.wrap (4 * (k : Int)) = 4 * (k : Int) := IntWalk.i64_in _ (by omega)
      have hw1 : IntKind.i64.wrap (4 * (k : Int) + 1) = 4 * (k : Int) + 1 := IntWalk.i64_in _ (by omega)
      have hw2 : IntKind.i64.wrap (4 * (k : Int) + 2) = 4 * (k : Int) + 2 := IntWalk.i64_in _ (by omega)
      have hw3 : IntKind.i64.wrap (4 * (k : Int) + 3) = 4 * (k : Int) + 3 := IntWalk.i64_in _ (by omega)
      have p0 : 0 ≤ 4 * (k : Int) ∧ 4 * (k : Int) < 64 := by omega
      have p1 : 0 ≤ 4 * (k : Int) + 1 ∧ 4 * (k : Int) + 1 < 64 := by omega
      have p2 : 0 ≤ 4 * (k : Int) + 2 ∧ 4 * (k : Int) + 2 < 64 := by omega
      have p3 : 0 ≤ 4 * (k : Int) + 3 ∧ 4 * (k : Int) + 3 < 64 := by omega
      have t0 : (4 * (k : Int)).toNat = 4 * k := by omega
      have t1 : (4 * (k : Int) + 1).toNat = 4 * k + 1 := by omega
      have t2 : (4 * (k : Int) + 2).toNat = 4 * k + 2 := by omega
      have t3 : (4 * (k : Int) + 3).toNat = 4 * k + 3 := by omega
      have HWd : Hid (Below w.heap.size w wr.drew) := Lib.hid (by have h := HW.out; exact ⟨h.os, h.tape, h.output, h.size, h.block⟩)
      have HOd : Hid (wr.drew.ownsRow w.heap.size 79 1 u5 k ((words rest k).map W)) := Lib.hid HO.out
      have HS : Hid (∀ wy, Below w.heap.size w wy → wy.cell? (ab.add (4 * k)) = some (U8 b0) ∧ wy.cell? ⟨ab.block, ab.off + (4 * k + 1), none⟩ = some (U8 b1) ∧ wy.cell? ⟨ab.block, ab.off + (4 * k + 2), none⟩ = some (U8 b2) ∧ wy.cell? ⟨ab.block, ab.off + (4 * k + 3), none⟩ = some (U8 b3)) := Lib.hid (fun wy hy => by
        refine ⟨?_, ?_, ?_, ?_⟩
        · exact (hy.cell (by rw [block_of_add]; exact HAB.out)).trans ((HW.out.cell (by rw [block_of_add]; exact HAB.out)).symm.trans c0)
        · exact (hy.cell (p := ⟨ab.block, ab.off + (4 * k + 1), none⟩) HAB.out).trans ((HW.out.cell (p := ⟨ab.block, ab.off + (4 * k + 1), none⟩) HAB.out).symm.trans c1)
        · exact (hy.cell (p := ⟨ab.block, ab.off + (4 * k + 2), none⟩) HAB.out).trans ((HW.out.cell (p := ⟨ab.block, ab.off + (4 * k + 2), none⟩) HAB.out).symm.trans c2)
        · exact (hy.cell (p := ⟨ab.block, ab.off + (4 * k + 3), none⟩) HAB.out).trans ((HW.out.cell (p := ⟨ab.block, ab.off + (4 * k + 3), none⟩) HAB.out).symm.trans c3))
      go_wp2_with fail
      clear c0 c1 c2 c3 HCB
      go_region_held3 (fun wy => wy.cell? (ab.add (4 * k)) = some (U8 b0) ∧ wy.cell? ⟨ab.block, ab.off + (4 * k + 1), none⟩ = some (U8 b1) ∧ wy.cell? ⟨ab.block, ab.off + (4 * k + 2), none⟩ = some (U8 b2) ∧ wy.cell? ⟨ab.block, ab.off + (4 * k + 3), none⟩ = some (U8 b3)) ((first | exact HS.out _ HWd.out | exact HS.out _ (HWd.out.alloc HWd.out.size _) | exact HS.out _ (Below.grown (HWd.out.alloc HWd.out.size _) hgrow1 (by have := HW.out.size; simp; omega) (fun j hj => (HOd.out.lt j hj).1)))) ((first | (refine step_slice1 rfl _ rfl _ rfl ?_) | (refine step_append1 rfl _ _ rfl rfl _ _ rfl (cell_new1 _ _ _) (HOd.out.alloc _) (by omega) (by have := HW.out.size; simp; omega) ?_; intro v1 w3 hown1 hgrow1 hkeep1)))
      have HO3 : Hid (w3.ownsRow w.heap.size 79 1 v1 (k + 1) ((words rest (k + 1)).map W)) := Lib.hid (by rw [HWD.out, List.map_append]; exact hown1)
      have HB3 : Hid (Below w.heap.size w w3) := Lib.hid (Below.grown (HWd.out.alloc HWd.out.size _) hgrow1 (by have := HW.out.size; simp; omega) (fun j hj => (HOd.out.lt j hj).1))
      clear hown1 hgrow1 hkeep1
      go_wp2
      go_roundw
      case rel => exact ⟨k + 1, by omega, by go_num, HO3, HB3⟩
      case measure => simp [intOf]; omega
    · have HO16 : Hid (wr.ownsRow w.heap.size 79 1 u5 (0 + 16) ((sched rest 0).map W)) := Lib.hid (by have h := HO.out; rw [show k = 16 by omega] at h; exact h)
      clear HO
      go_wp2_with fail
      go_loopw [5, 7] (fun v i wr => ∃ k : Nat, k ≤ 48 ∧ i = .int .i64 ((k : Int) + 16) ∧ Hid (wr.ownsRow w.heap.size 79 1 v (k + 16) ((sched rest k).map W)) ∧ Hid (Below w.heap.size w wr)) (fun _ i _ => 64 - (intOf i).toNat)
      case atStart => exact ⟨0, by omega, by go_num, HO16, HW⟩
      case round =>
        clear HO16 HW hlt hk
        obtain ⟨k, hk, rfl, HO, HW⟩ := hrel
        by_cases hlt : k < 48
        · obtain ⟨L, hL⟩ : ∃ L, L = k + 16 := ⟨_, rfl⟩
          rw [← hL] at HO
          have hLk : 16 ≤ L ∧ L ≤ 64 := by omega
          have HLK := Lib.hid hL
          obtain ⟨A5, c5, rfl, hr5⟩ := own_readsN HO.out
          obtain ⟨ad, rfl, hadb, hcell⟩ := hr5.2 (by omega)
          have hsl := sched_length rest k
          have HCE : Hid (∀ w', (∃ n, w' = wr.drewN n) → ∀ j, j < k + 16 → w'.cell? (ad.add j) = some (W ((sched rest k).getD j 0))) := Lib.hid (fun w' h j hj => by
            obtain ⟨n, rfl⟩ := h
            exact hcell j _ (map_get (by rw [hsl]; exact hj)))
          have HSL := Lib.hid hsl
          clear hr5 hcell hsl
          have HEX : Hid (sched rest (k + 1) = sched rest k ++ [(((((rot ((sched rest k).getD (k + 14) 0) 17 ^^^ rot ((sched rest k).getD (k + 14) 0) 19) ^^^ (((sched rest k).getD (k + 14) 0) >>> 10))) + (sched rest k).getD (k + 9) 0) + ((rot ((sched rest k).getD (k + 1) 0) 7 ^^^ rot ((sched rest k).getD (k + 1) 0) 18) ^^^ (((sched rest k).getD (k + 1) 0) >>> 3))) + (sched rest k).getD k 0]) := Lib.hid (by
            rw [sched, ext_ref]
            unfold sig0 sig1
            rw [show k + 16 - 16 = k by omega, show k + 16 - 7 = k + 9 by omega, show k + 16 - 15 = k + 1 by omega, show k + 16 - 2 = k + 14 by omega])
          have a1 := HCE.out wr ⟨0, rfl⟩ (k + 1) (by omega)
          have a14 := HCE.out wr ⟨0, rfl⟩ (k + 14) (by omega)
          have a9 := HCE.out wr ⟨0, rfl⟩ (k + 9) (by omega)
          have a0 := HCE.out wr ⟨0, rfl⟩ k (by omega)
          rw [add_succ] at a1
          rw [show k + 14 = (k + 13) + 1 from rfl, add_succ] at a14
          rw [show k + 9 = (k + 8) + 1 from rfl, add_succ] at a9
          have HS2 : Hid (∀ wy : World, wy.ownsRow w.heap.size 79 1 (.slice (some ad) L c5) L ((sched rest k).map W) → wy.cell? ⟨ad.block, ad.off + (k + 9), none⟩ = some (W ((sched rest k).getD (k + 9) 0)) ∧ wy.cell? (ad.add k) = some (W ((sched rest k).getD k 0))) := Lib.hid (fun wy hy => by
            obtain ⟨A6, c6, e6, hr6⟩ := own_readsN hy
            obtain ⟨ad6, e7, _, hc6⟩ := hr6.2 (by omega)
            injection e6 with e6
            rw [← e6] at e7
            injection e7 with e7
            subst e7
            have h9 := hc6 (k + 9) _ (map_get (by rw [HSL.out]; omega))
            rw [show k + 9 = (k + 8) + 1 from rfl, add_succ] at h9
            exact ⟨h9, hc6 k _ (map_get (by rw [HSL.out]; omega))⟩)
          generalize (sched rest k).getD k 0 = x0 at a0 HEX HS2
          generalize (sched rest k).getD (k + 9) 0 = x9 at a9 HEX HS2
          generalize (sched rest k).getD (k + 1) 0 = x1 at a1 HEX
          generalize (sched rest k).getD (k + 14) 0 = x14 at a14 HEX
          generalize sched rest k = SK at HO HSL HEX HCE HS2
          clear HCE
          have hw15 : IntKind.i64.wrap ((k : Int) + 16 - 15) = (k : Int) + 1 := by rw [show (k : Int) + 16 - 15 = (k : Int) + 1 by omega]; exact IntWalk.i64_in _ (by omega)
          have hw2 : IntKind.i64.wrap ((k : Int) + 16 - 2) = (k : Int) + 14 := by rw [show (k : Int) + 16 - 2 = (k : Int) + 14 by omega]; exact IntWalk.i64_in _ (by omega)
          have p1 : 0 ≤ (k : Int) + 1 ∧ (k : Int) + 1 < (L : Int) := by omega
          have p2 : 0 ≤ (k : Int) + 14 ∧ (k : Int) + 14 < (L : Int) := by omega
          have t1 : ((k : Int) + 1).toNat = k + 1 := by omega
          have t2 : ((k : Int) + 14).toNat = k + 14 := by omega
          clear hL
          have TZ := Lib.hid rturnZ
          have hx := xor_W
          have hr3 : ∀ x wx, (binOp .shr 79 (W x) (.int .u64 3)).run Tryz.prog wx = .ok (W (x >>> 3)) wx := fun x wx => shr_W x wx .u64 3 (by omega)
          have hr10 : ∀ x wx, (binOp .shr 79 (W x) (.int .u64 10)).run Tryz.prog wx = .ok (W (x >>> 10)) wx := fun x wx => shr_W x wx .u64 10 (by omega)
          go_upto_region 11 with fail
          clear a0 a1 a9 a14 hw15 hw2 p1 p2 t1 t2
          have HM0 : Hid (∃ m, wr = wr.drewN m) := Lib.hid ⟨0, rfl⟩
          go_wp2_with fail
          refine (TZ.out _ _ (by decide) (by decide) _).mono ?_
          rintro e1 w1 ⟨rfl, m1, hw1⟩
          have HM1 : Hid (∃ m, w1 = wr.drewN m) := Lib.hid ⟨m1, hw1⟩
          clear hw1 HM0
          go_wp2_with fail
          refine (TZ.out _ _ (by decide) (by decide) _).mono ?_
          rintro e2 w2 ⟨rfl, m2, hw2⟩
          have HM2 : Hid (∃ m, w2 = wr.drewN m) := Lib.hid (by obtain ⟨m, hm⟩ := HM1.out; exact ⟨m + m2, by rw [hw2, hm, World.drewN_drewN]⟩)
          clear hw2 HM1
          go_wp2_with fail
          refine (TZ.out _ _ (by decide) (by decide) _).mono ?_
          rintro e3 w3 ⟨rfl, m3, hw3⟩
          have HM3 : Hid (∃ m, w3 = wr.drewN m) := Lib.hid (by obtain ⟨m, hm⟩ := HM2.out; exact ⟨m + m3, by rw [hw3, hm, World.drewN_drewN]⟩)
          clear hw3 HM2
          go_wp2_with fail
          refine (TZ.out _ _ (by decide) (by decide) _).mono ?_
          rintro e4 w4 ⟨rfl, m4, hw4⟩
          have HM4 : Hid (∃ m, w4 = wr.drewN m) := Lib.hid (by obtain ⟨m, hm⟩ := HM3.out; exact ⟨m + m4, by rw [hw4, hm, World.drewN_drewN]⟩)
          clear hw4 HM3
          have HO4 : Hid (w4.ownsRow w.heap.size 79 1 (.slice (some ad) L c5) L (SK.map W)) := Lib.hid (by obtain ⟨m, hm⟩ := HM4.out; rw [hm]; exact HO.out)
          have HW4 : Hid (Below w.heap.size w w4) := Lib.hid (by obtain ⟨m, hm⟩ := HM4.out; rw [hm]; have h := HW.out; exact ⟨h.os, h.tape, h.output, h.size, h.block⟩)
          clear HO HW HM4
          go_upto_region 13 with fail
          clear hx hr3 hr10
          have HOd : Hid (w4.drew.ownsRow w.heap.size 79 1 (.slice (some ad) L c5) L (SK.map W)) := Lib.hid HO4.out
          have HWd : Hid (Below w.heap.size w w4.drew) := Lib.hid (by have h := HW4.out; exact ⟨h.os, h.tape, h.output, h.size, h.block⟩)
          have hw16 : IntKind.i64.wrap ((k : Int) + 16 - 16) = (k : Int) := by rw [show (k : Int) + 16 - 16 = (k : Int) by omega]; exact IntWalk.i64_in _ (by omega)
          have hwk : IntKind.i64.wrap (k : Int) = (k : Int) := IntWalk.i64_in _ (by omega)
          have hw7 : IntKind.i64.wrap ((k : Int) + 16 - 7) = (k : Int) + 9 := by rw [show (k : Int) + 16 - 7 = (k : Int) + 9 by omega]; exact IntWalk.i64_in _ (by omega)
          have p0 : 0 ≤ (k : Int) ∧ (k : Int) < (L : Int) := by have := HLK.out; omega
          have p3 : 0 ≤ (k : Int) + 9 ∧ (k : Int) + 9 < (L : Int) := by have := HLK.out; omega
          have t3 : ((k : Int) + 9).toNat = k + 9 := by omega
          generalize rot x1 7 ^^^ rot x1 18 ^^^ x1 >>> 3 = s0v at HEX
          generalize rot x14 17 ^^^ rot x14 19 ^^^ x14 >>> 10 = s1v at HEX
          obtain ⟨X, hX⟩ : ∃ X : UInt32, X = s1v + x9 + s0v + x0 := ⟨_, rfl⟩
          have ha1 := add_W s1v x9
          have ha2 := add_W (s1v + x9) s0v
          have ha3 : ∀ wx, (binOp .add 79 (W (s1v + x9 + s0v)) (W x0)).run Tryz.prog wx = .ok (.int .u32 (X.toNat : Nat)) wx := fun wx => by rw [hX]; exact add_W _ _ wx
          rw [← hX] at HEX
          clear hX
          go_region_held3 (fun wy => wy.cell? ⟨ad.block, ad.off + (k + 9), none⟩ = some (W x9) ∧ wy.cell? (ad.add k) = some (W x0)) ((first | exact HS2.out _ HOd.out | exact HS2.out _ (HOd.out.alloc _) | exact HS2.out _ hkeep1)) ((first | (refine step_append1 (base := w.heap.size) (n := L) (v := .slice (some ad) L c5) (xs := SK.map W) rfl _ _ rfl rfl _ _ rfl (cell_new1 _ _ _) (HOd.out.alloc _) (by omega) (by have := HW4.out.size; simp; omega) ?_; intro v1 w5 hown1 hgrow1 hkeep1)))
          have HO5 : Hid (w5.ownsRow w.heap.size 79 1 v1 (k + 1 + 16) ((sched rest (k + 1)).map W)) := Lib.hid (by rw [HEX.out, List.map_append, show k + 1 + 16 = L + 1 by have := HLK.out; omega]; exact hown1)
          have HB5 : Hid (Below w.heap.size w w5) := Lib.hid (Below.grown (HWd.out.alloc HWd.out.size _) hgrow1 (by have := HW4.out.size; simp; omega) (fun j hj => (HOd.out.lt j hj).1))
          clear hown1 hgrow1 hkeep1
          go_wp2
          go_roundw
          case rel => exact ⟨k + 1, by omega, by go_num, HO5, HB5⟩
          case measure => simp [intOf]; omega
        · have HO48 : Hid (wr.ownsRow w.heap.size 79 1 u5 64 ((sched rest 48).map W)) := Lib.hid (by have h := HO.out; rw [show k = 48 by omega] at h; exact h)
          clear HO
          have HW48 : Hid (∀ m, m = 48 → compress st rest = List.zipWith (· + ·) st (runs (S8.of st) (sched rest 48) 64).list) := Lib.hid (fun m h => rfl)
          obtain ⟨ws, hws⟩ : ∃ ws, ws = sched rest 48 := ⟨_, rfl⟩
          have HL1 : Hid (ws.length = 64) := Lib.hid (by rw [hws, sched_length])
          have HCO : Hid (∀ m, m = 48 → compress st rest = List.zipWith (· + ·) st (runs (S8.of st) ws 64).list) := Lib.hid (fun m h => by rw [hws]; rfl)
          rw [← hws] at HO48
          clear hws HW48
          obtain ⟨A5, c5, rfl, hr5⟩ := own_readsN HO48.out
          obtain ⟨ad, rfl, hadb, hcell⟩ := hr5.2 (by omega)
          have HWS : Hid (∀ j, j < 64 → wr.cell? (ad.add j) = some (W (ws.getD j 0))) := Lib.hid (fun j hj => hcell j _ (map_get (by rw [HL1.out]; exact hj)))
          have HADB := Lib.hid hadb
          clear hr5 hcell hadb HO48
          have HAH : Hid (∀ j, j < 8 → wr.cell? (ah.add j) = some (W (st.getD j 0))) := Lib.hid (fun j hj => by
            obtain ⟨ad', h1, _, h3⟩ := (HR.out.below HW.out).2 (by omega)
            injection h1 with h1
            rw [h1]; exact h3 j _ (map_get (by rw [H8.out]; exact hj)))
          obtain ⟨w1, hw1⟩ : ∃ w1, w1 = wr := ⟨_, rfl⟩
          subst hw1
          have hcp := fun ty => run_copy_row (P := Tryz.prog) (w1.alloc (.cells #[Value.int IntKind.u32 0, Value.int IntKind.u32 0, Value.int IntKind.u32 0, Value.int IntKind.u32 0, Value.int IntKind.u32 0, Value.int IntKind.u32 0, Value.int IntKind.u32 0, Value.int IntKind.u32 0] 80)) 89 89 ty 79 w1.heap.size 0 8 8 ah 8 c _ _ (st.map W) Tryz.underlying89 u32One (heap_alloc_new w1 _) (by rw [List.length_map, H8.out]; rfl) (by
            intro j v hv
            have hj : j < 8 := by have := (List.getElem?_eq_some_iff.1 hv).1; rw [List.length_map, H8.out] at this; exact this
            rw [map_get (by rw [H8.out]; exact hj)] at hv
            rw [← hv]
            refine (World.cell?_alloc_lt w1 _ _ ?_).trans (HAH.out j hj)
            rw [block_of_add]; have := HAHB.out; have := HW.out.size; omega) (by rw [List.length_map, H8.out]; decide) (by intro v hv; obtain ⟨x, _, rfl⟩ := List.mem_map.1 hv; rfl)
          have hcl : (st.map W).length = 8 := by rw [List.length_map, H8.out]
          rw [hcl] at hcp
          have HX0 : Hid (Blk ((w1.alloc (.cells #[Value.int IntKind.u32 0, Value.int IntKind.u32 0, Value.int IntKind.u32 0, Value.int IntKind.u32 0, Value.int IntKind.u32 0, Value.int IntKind.u32 0, Value.int IntKind.u32 0, Value.int IntKind.u32 0] 80)).setRow w1.heap.size ((#[Value.int IntKind.u32 0, Value.int IntKind.u32 0, Value.int IntKind.u32 0, Value.int IntKind.u32 0, Value.int IntKind.u32 0, Value.int IntKind.u32 0, Value.int IntKind.u32 0, Value.int IntKind.u32 0] : Array Value).toList.take 0 ++ st.map W ++ (#[Value.int IntKind.u32 0, Value.int IntKind.u32 0, Value.int IntKind.u32 0, Value.int IntKind.u32 0, Value.int IntKind.u32 0, Value.int IntKind.u32 0, Value.int IntKind.u32 0, Value.int IntKind.u32 0] : Array Value).toList.drop (0 + 8)).toArray) w1.heap.size 80 ((S8.of st).list.map W).toArray) := Lib.hid (by
            have h := setRow_heap (w1.alloc (.cells #[Value.int IntKind.u32 0, Value.int IntKind.u32 0, Value.int IntKind.u32 0, Value.int IntKind.u32 0, Value.int IntKind.u32 0, Value.int IntKind.u32 0, Value.int IntKind.u32 0, Value.int IntKind.u32 0] 80)) w1.heap.size _ (st.map W).toArray _ _ (heap_alloc_new w1 _)
            rw [S8.list_of st H8.out]
            have e : ((#[Value.int IntKind.u32 0, Value.int IntKind.u32 0, Value.int IntKind.u32 0, Value.int IntKind.u32 0, Value.int IntKind.u32 0, Value.int IntKind.u32 0, Value.int IntKind.u32 0, Value.int IntKind.u32 0] : Array Value).toList.take 0 ++ st.map W ++ (#[Value.int IntKind.u32 0, Value.int IntKind.u32 0, Value.int IntKind.u32 0, Value.int IntKind.u32 0, Value.int IntKind.u32 0, Value.int IntKind.u32 0, Value.int IntKind.u32 0, Value.int IntKind.u32 0] : Array Value).toList.drop (0 + 8)).toArray = (st.map W).toArray := by simp
            rw [e]
            exact h)
          have HB0 : Hid (Below w1.heap.size w1 ((w1.alloc (.cells #[Value.int IntKind.u32 0, Value.int IntKind.u32 0, Value.int IntKind.u32 0, Value.int IntKind.u32 0, Value.int IntKind.u32 0, Value.int IntKind.u32 0, Value.int IntKind.u32 0, Value.int IntKind.u32 0] 80)).setRow w1.heap.size ((#[Value.int IntKind.u32 0, Value.int IntKind.u32 0, Value.int IntKind.u32 0, Value.int IntKind.u32 0, Value.int IntKind.u32 0, Value.int IntKind.u32 0, Value.int IntKind.u32 0, Value.int IntKind.u32 0] : Array Value).toList.take 0 ++ st.map W ++ (#[Value.int IntKind.u32 0, Value.int IntKind.u32 0, Value.int IntKind.u32 0, Value.int IntKind.u32 0, Value.int IntKind.u32 0, Value.int IntKind.u32 0, Value.int IntKind.u32 0, Value.int IntKind.u32 0] : Array Value).toList.drop (0 + 8)).toArray)) := Lib.hid (setRow_below ((Below.refl _ _).alloc (Nat.le_refl _) _) (Nat.le_refl _) _)
          generalize ((w1.alloc (.cells #[Value.int IntKind.u32 0, Value.int IntKind.u32 0, Value.int IntKind.u32 0, Value.int IntKind.u32 0, Value.int IntKind.u32 0, Value.int IntKind.u32 0, Value.int IntKind.u32 0, Value.int IntKind.u32 0] 80)).setRow w1.heap.size ((#[Value.int IntKind.u32 0, Value.int IntKind.u32 0, Value.int IntKind.u32 0, Value.int IntKind.u32 0, Value.int IntKind.u32 0, Value.int IntKind.u32 0, Value.int IntKind.u32 0, Value.int IntKind.u32 0] : Array Value).toList.take 0 ++ st.map W ++ (#[Value.int IntKind.u32 0, Value.int IntKind.u32 0, Value.int IntKind.u32 0, Value.int IntKind.u32 0, Value.int IntKind.u32 0, Value.int IntKind.u32 0, Value.int IntKind.u32 0, Value.int IntKind.u32 0] : Array Value).toList.drop (0 + 8)).toArray) = w2 at hcp HX0 HB0
          clear hcl
          go_wp2_with (refine wpList_copy_at _ rfl _ _ 89 89 rfl _ _ rfl rfl (hcp _) ?_)
          clear hcp hlt hk
          have HG12 : Hid (w1.heap.size < w2.heap.size) := Lib.hid HX0.out.lt
          have HBW : Hid (Below w.heap.size w w1) := HW
          have HRT : Hid (RTab w1) := Lib.hid (HK.out.below HBW.out HK.out.lt)
          go_loopw [13] (fun i wr => ∃ (k : Nat) (x : S8), k ≤ 64 ∧ i = .int .i64 k ∧ Hid (x = runs (S8.of st) ws k) ∧ Hid (Blk wr w1.heap.size 80 (x.list.map W).toArray) ∧ Hid (Below w1.heap.size w1 wr)) (fun i _ => 64 - (intOf i).toNat)
          case atStart => exact ⟨0, S8.of st, by omega, rfl, Lib.hid rfl, HX0, HB0⟩
          case round =>
            clear HX0 HB0 HG12
            obtain ⟨k, ⟨a, b, c2, d, e, f, gg, h⟩, hk, rfl, HX, HD, HB⟩ := hrel
            by_cases hlt : k < 64
            · have v0 : wr.cell? ⟨w1.heap.size, 0, none⟩ = some (W a) := HD.out.cell 0
              have v1 : wr.cell? ⟨w1.heap.size, 1, none⟩ = some (W b) := HD.out.cell 1
              have v2 : wr.cell? ⟨w1.heap.size, 2, none⟩ = some (W c2) := HD.out.cell 2
              have v3 : wr.cell? ⟨w1.heap.size, 3, none⟩ = some (W d) := HD.out.cell 3
              have v4 : wr.cell? ⟨w1.heap.size, 4, none⟩ = some (W e) := HD.out.cell 4
              have v5 : wr.cell? ⟨w1.heap.size, 5, none⟩ = some (W f) := HD.out.cell 5
              have v6 : wr.cell? ⟨w1.heap.size, 6, none⟩ = some (W gg) := HD.out.cell 6
              have v7 : wr.cell? ⟨w1.heap.size, 7, none⟩ = some (W h) := HD.out.cell 7
              have kc : wr.cell? ⟨2, k, none⟩ = some (W (kTab.getD k 0)) := (HB.out.cell (p := ⟨2, k, none⟩) HRT.out.lt).trans (HRT.out k hlt)
              have wc : wr.cell? (ad.add k) = some (W (ws.getD k 0)) := (HB.out.cell (by rw [block_of_add]; exact HADB.out)).trans (HWS.out k hlt)
              have HR1 : Hid (runs (S8.of st) ws (k + 1) = round ⟨a, b, c2, d, e, f, gg, h⟩ (kTab.getD k 0) (ws.getD k 0)) := Lib.hid (by rw [runs, ← HX.out])
              generalize kTab.getD k 0 = kk at kc HR1
              generalize ws.getD k 0 = ww at wc HR1
              have p0 : 0 ≤ (k : Int) ∧ (k : Int) < 64 := by omega
              go_wp2_with fail
              go_quiet (fail)
              have TZ := Lib.hid rturnZ
              have ha := add_W
              have hx := xor_W
              have hn := and_W
              have ht := not_W
              have v3n : (wr.drewN nq).cell? ⟨w1.heap.size, 3, none⟩ = some (W d) := v3
              have v7n : (wr.drewN nq).cell? ⟨w1.heap.size, 7, none⟩ = some (W h) := v7
              have kcn : (wr.drewN nq).cell? ⟨2, k, none⟩ = some (W kk) := kc
              have wcn : (wr.drewN nq).cell? (ad.add k) = some (W ww) := wc
              have HM3 : Hid (∃ m, wr.drewN nq = wr.drewN m) := Lib.hid ⟨nq, rfl⟩
              have HV3 : Hid (∀ m, (wr.drewN m).cell? ⟨w1.heap.size, 3, none⟩ = some (W d)) := Lib.hid (fun m => v3)
              clear v0 v1 v2 v3 v4 v5 v6 v7 kc wc
              generalize wr.drewN nq = w3 at v3n v7n kcn wcn HM3
              go_wp2_with fail
              go_quiet ((exact Calls.quiet_of (TZ.out _ _ (by decide) (by decide) _)))
              have HM4 : Hid (∃ m, w3.drewN nq = wr.drewN m) := Lib.hid (by obtain ⟨m, hm⟩ := HM3.out; exact ⟨m + nq, by rw [hm, World.drewN_drewN]⟩)
              clear v3n v7n kcn wcn HM3
              generalize w3.drewN nq = w4 at HM4
              go_wp2_with fail
              refine (TZ.out _ _ (by decide) (by decide) _).mono ?_
              rintro e5 w5 ⟨rfl, m5, hw5⟩
              have HM5 : Hid (∃ m, w5 = wr.drewN m) := Lib.hid (by obtain ⟨m, hm⟩ := HM4.out; exact ⟨m + m5, by rw [hw5, hm, World.drewN_drewN]⟩)
              clear hw5 HM4
              go_wp2_with fail
              refine (TZ.out _ _ (by decide) (by decide) _).mono ?_
              rintro e6 w6 ⟨rfl, m6, hw6⟩
              have HM6 : Hid (∃ m, w6 = wr.drewN m) := Lib.hid (by obtain ⟨m, hm⟩ := HM5.out; exact ⟨m + m6, by rw [hw6, hm, World.drewN_drewN]⟩)
              clear hw6 HM5
              go_wp2_with fail
              refine (TZ.out _ _ (by decide) (by decide) _).mono ?_
              rintro e7 w7 ⟨rfl, m7, hw7⟩
              have HM7 : Hid (∃ m, w7 = wr.drewN m) := Lib.hid (by obtain ⟨m, hm⟩ := HM6.out; exact ⟨m + m7, by rw [hw7, hm, World.drewN_drewN]⟩)
              clear hw7 HM6
              go_upto_region 22 with fail
              have v3b : w7.cell? ⟨w1.heap.size, 3, none⟩ = some (W d) := by obtain ⟨m, hm⟩ := HM7.out; rw [hm]; exact HV3.out m
              obtain ⟨t1, ht1⟩ : ∃ t1, t1 = one ⟨a, b, c2, d, e, f, gg, h⟩ kk ww := ⟨_, rfl⟩
              obtain ⟨t2, ht2⟩ : ∃ t2, t2 = two ⟨a, b, c2, d, e, f, gg, h⟩ := ⟨_, rfl⟩
              have HT1 := Lib.hid ht1
              have HT2 := Lib.hid ht2
              have e1 : h + (rot e 6 ^^^ rot e 11 ^^^ rot e 25) + (e &&& f ^^^ ~~~e &&& gg) + kk + ww = t1 := ht1.symm
              have e2 : (rot a 2 ^^^ rot a 13 ^^^ rot a 22) + (a &&& b ^^^ a &&& c2 ^^^ b &&& c2) = t2 := ht2.symm
              rw [e1, e2]
              clear ht1 ht2 e1 e2
              have hd7 : w7.heap[w1.heap.size]? = some (.cells ((⟨a, b, c2, d, e, f, gg, h⟩ : S8).list.map W).toArray 80 (0, 0)) := by obtain ⟨m, hm⟩ := HM7.out; rw [hm]; exact HD.out
              have hb7 : Below w1.heap.size w1 w7 := by obtain ⟨m, hm⟩ := HM7.out; rw [hm]; have h := HB.out; exact ⟨h.os, h.tape, h.output, h.size, h.block⟩
              have HB8 : Hid (∀ cs, Below w1.heap.size w1 (w7.setRow w1.heap.size cs)) := Lib.hid (fun cs => setRow_below hb7 (Nat.le_refl _) cs)
              have HD8 : Hid (Blk (w7.setRow w1.heap.size #[W (t1 + t2), W a, W b, W c2, W (d + t1), W e, W f, W gg]) w1.heap.size 80 ((round ⟨a, b, c2, d, e, f, gg, h⟩ kk ww).list.map W).toArray) := Lib.hid (by
                have h := setRow_heap w7 w1.heap.size _ #[W (t1 + t2), W a, W b, W c2, W (d + t1), W e, W f, W gg] _ _ hd7
                rw [HT1.out, HT2.out] at h
                rw [HT1.out, HT2.out]
                exact h)
              have hi8 : (Tryz.prog.info? 80).map (·.size) = some 8 := by kernel_rfl
              generalize hold8 : ((⟨a, b, c2, d, e, f, gg, h⟩ : S8).list.map W).toArray = OLD at hd7
              have ho8 : OLD.size = 8 := by rw [← hold8]; rfl
              clear hold8 hb7 hx hn ht
              go_wp2_with (first | (refine wpList_build_as rfl _ _ rfl #[W (t1 + t2), W a, W b, W c2, W (d + t1), W e, W f, W gg] ?hbuilt ?_; case hbuilt => (simp only [List.map_toArray, List.map_cons, List.map_nil]; exact built8 _ _ _ _ _ _ _ _)) | (refine wpList_store_row rfl 80 _ _ rfl w1.heap.size #[W (t1 + t2), W a, W b, W c2, W (d + t1), W e, W f, W gg] rfl rfl 80 OLD hd7 hi8 ho8 (all8 _ _ _ _ _ _ _ _) ?_))
              go_roundw
              case rel => exact ⟨k + 1, round ⟨a, b, c2, d, e, f, gg, h⟩ kk ww, by omega, by go_num, Lib.hid HR1.out.symm, HD8, HB8.out _⟩
              case measure => simp [intOf]; omega
            · have HXX : Hid ((⟨a, b, c2, d, e, f, gg, h⟩ : S8).list = (runs (S8.of st) ws 64).list) := Lib.hid (by rw [HX.out, show k = 64 by omega])
              have HLL : Hid ((⟨a, b, c2, d, e, f, gg, h⟩ : S8).list.length = 8) := Lib.hid rfl
              generalize (⟨a, b, c2, d, e, f, gg, h⟩ : S8).list = l8 at HXX HLL HD
              have HZIP : Hid (compress st rest = List.zipWith (· + ·) st l8) := Lib.hid (by rw [HCO.out 48 rfl, HXX.out])
              clear HX HXX
              go_wp2_with fail
              obtain ⟨w5, hw5⟩ : ∃ w5, w5 = wr := ⟨_, rfl⟩
              subst hw5
              have HB5 : Hid (Below w.heap.size w w5) := Lib.hid (HBW.out.trans (HB.out.mono HBW.out.size))
              have HG5 : Hid (w1.heap.size < w5.heap.size) := Lib.hid HD.out.lt
              have HV : Hid (∀ wy, Below w5.heap.size w5 wy → ∀ j, j < 8 → wy.cell? ⟨w1.heap.size, j, none⟩ = some (W (l8.getD j 0))) := Lib.hid (fun wy hy j hj =>
                (hy.cell (p := ⟨w1.heap.size, j, none⟩) HG5.out).trans ((HD.out.cell j).trans (by rw [List.getElem?_toArray]; exact map_get (by rw [HLL.out]; exact hj))))
              have HH : Hid (∀ wy, Below w5.heap.size w5 wy → ∀ j, j < 8 → wy.cell? (ah.add j) = some (W (st.getD j 0))) := Lib.hid (fun wy hy j hj =>
                (hy.cell (by rw [block_of_add]; have := HAHB.out; have := HB5.out.size; omega)).trans ((HB.out.cell (by rw [block_of_add]; have := HAHB.out; have := HBW.out.size; omega)).trans (HAH.out j hj)))
              clear HD HB
              go_loopw [22, 23] (fun v i wr => ∃ k : Nat, k ≤ 8 ∧ i = .int .i64 k ∧ Hid (wr.ownsRow w5.heap.size 79 1 v k (((List.zipWith (· + ·) st l8).take k).map W)) ∧ Hid (Below w5.heap.size w5 wr)) (fun _ i _ => 8 - (intOf i).toNat)
              case atStart => exact ⟨0, by omega, rfl, Lib.hid (World.ownsRow_nil _ _ _ _), Lib.hid (Below.refl _ _)⟩
              case round =>
                obtain ⟨j, hj, rfl, HO, HB⟩ := hrel
                by_cases hj8 : j < 8
                · have HSX : Hid ((List.zipWith (· + ·) st l8).take (j + 1) = (List.zipWith (· + ·) st l8).take j ++ [st.getD j 0 + l8.getD j 0]) := Lib.hid (by
                    have hs := H8.out
                    have hl := HLL.out
                    rw [List.take_succ_eq_append_getElem (by simp; omega)]
                    simp [List.getD, List.getElem?_eq_getElem (show j < st.length by omega), List.getElem?_eq_getElem (show j < l8.length by omega)])
                  have HS4 : Hid (∀ wy, Below w5.heap.size w5 wy → wy.cell? (ah.add j) = some (W (st.getD j 0)) ∧ wy.cell? ⟨w1.heap.size, j, none⟩ = some (W (l8.getD j 0))) := Lib.hid (fun wy hy => ⟨HH.out wy hy j hj8, HV.out wy hy j hj8⟩)
                  generalize st.getD j 0 = sv at HS4 HSX
                  generalize l8.getD j 0 = xv at HS4 HSX
                  obtain ⟨X, hX⟩ : ∃ X : UInt32, X = sv + xv := ⟨_, rfl⟩
                  have ha3 : ∀ wx, (binOp .add 79 (W sv) (W xv)).run Tryz.prog wx = .ok (.int .u32 (X.toNat : Nat)) wx := fun wx => by rw [hX]; exact add_W _ _ wx
                  rw [← hX] at HSX
                  clear hX
                  have HOd : Hid (wr.drew.ownsRow w5.heap.size 79 1 u22 j (((List.zipWith (· + ·) st l8).take j).map W)) := Lib.hid HO.out
                  have HWd : Hid (Below w5.heap.size w5 wr.drew) := Lib.hid (by have h := HB.out; exact ⟨h.os, h.tape, h.output, h.size, h.block⟩)
                  have p0 : 0 ≤ (j : Int) ∧ (j : Int) < 8 := by omega
                  go_wp2_with fail
                  go_region_held3 (fun wy => wy.cell? (ah.add j) = some (W sv) ∧ wy.cell? ⟨w1.heap.size, j, none⟩ = some (W xv)) ((first | exact HS4.out _ HWd.out | exact HS4.out _ (HWd.out.alloc HWd.out.size _) | exact HS4.out _ (Below.grown (HWd.out.alloc HWd.out.size _) hgrow1 (by have := HB.out.size; simp; omega) (fun j hj => (HOd.out.lt j hj).1)))) ((first | (refine step_append1 rfl _ _ rfl rfl _ _ rfl (cell_new1 _ _ _) (HOd.out.alloc _) (by omega) (by have := HB.out.size; simp; omega) ?_; intro v9 w9 hown1 hgrow1 hkeep1)))
                  have HO9 : Hid (w9.ownsRow w5.heap.size 79 1 v9 (j + 1) (((List.zipWith (· + ·) st l8).take (j + 1)).map W)) := Lib.hid (by rw [HSX.out, List.map_append]; exact hown1)
                  have HB9 : Hid (Below w5.heap.size w5 w9) := Lib.hid (Below.grown (HWd.out.alloc HWd.out.size _) hgrow1 (by have := HB.out.size; simp; omega) (fun j hj => (HOd.out.lt j hj).1))
                  clear hown1 hgrow1 hkeep1
                  go_wp2
                  go_roundw
                  case rel => exact ⟨j + 1, by omega, by go_num, HO9, HB9⟩
                  case measure => simp [intOf]; omega
                · have hj : j = 8 := by omega
                  have HP : Hid (RBlockPost w st rest (.returned u22) wr) := Lib.hid ⟨_, rfl, by
                    have h := HO.out
                    rw [hj, List.take_of_length_le (by simp [H8.out, HLL.out]), ← HZIP.out] at h
                    exact own_base h HB5.out.size, HB5.out.trans (HB.out.mono HB5.out.size)⟩
                  go_wp2
                  go_ret
                  exact HP.out
end Go.Proofs.YtgjelinnpcekmaaGreatDoor
