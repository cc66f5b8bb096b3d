/-
  Parts of the proof: CfRp.
-/
import Derived.Test.YtjohdaobhonioaaGreatDoorPkFo36
namespace Go.Proofs.YtjohdaobhonioaaGreatDoor
open Go.RowKit
namespace Js.Cf
def zMf : Array Value := #[.int .u8 0, .int .u8 0, .int .u8 0, .int .u8 0, .int .u8 0, .int .u8 0, .int .u8 0, .int .u8 0, .int .u8 0, .int .u8 0, .int .u8 0, .int .u8 0, .int .u8 0, .int .u8 0, .int .u8 0, .int .u8 0, .int .u8 0, .int .u8 0, .int .u8 0, .int .u8 0, .int .u8 0, .int .u8 0, .int .u8 0, .int .u8 0, .int .u8 0, .int .u8 0, .int .u8 0, .int .u8 0, .int .u8 0, .int .u8 0, .int .u8 0, .int .u8 0, .int .i64 0, .slice none 0 0]
def MPost (s : B) (w : World) (x : Ending) (w' : World) : Prop := Below w.heap.size w w' /\ match progM s with
 | some m => ∃ lv, x = .returned (.tuple #[.agg (pcV m.cfg ++ [lv]).toArray, .nilIface]) /\ w'.ownsRow w.heap.size 42 33 lv m.layers.length (pcC m.layers) /\ MfOk m /\ m.layers.length ≤ 4194304
 | none => x = .returned (.tuple #[.agg zMf, errnoV 4])
theorem mpost_no {s : B} {w w' : World} (h : progM s = none) (hb : Below w.heap.size w w') : MPost s w (.returned (.tuple #[.agg zMf, errnoV 4])) w' := by
 unfold MPost; rw [h]; exact ⟨hb, rfl⟩
theorem run_empty_manifest : Tryz.prog.built 45 [] = some zMf := by kernel_rfl
theorem wpList_build_to {P : Program} {ops : Array Oper} {rest : List Oper} {o : Oper} {a : Act} {w : World} {Q : Exit -> Act -> World -> Prop} (hg : o.guard = none) (t : TypeId) (parts : Array (Nat × Operand)) (ho : o.op = .build t parts) (l : List (Nat × Value)) (hl : (parts.map fun (i, x) => (i, a.eval x)).toList = l)
  (cs : Array Value) (hf : P.built t l = some cs) (h : wpList P ops Q rest (a.put o.dst (.agg cs)) w) : wpList P ops Q (o :: rest) a w :=
 wpList_build_as hg t parts ho cs (by rw [hl]; exact hf) h
theorem built_mf0 (a0 a1 a2 a3 a4 a5 a6 a7 a8 a9 a10 a11 a12 a13 a14 a15 a16 a17 a18 a19 a20 a21 a22 a23 a24 a25 a26 a27 a28 a29 a30 a31 : UInt8) (z : Int) : Tryz.prog.built 45 [(0, .agg (Lib.byteCells [a0, a1, a2, a3, a4, a5, a6, a7, a8, a9, a10, a11, a12, a13, a14, a15, a16, a17, a18, a19, a20, a21, a22, a23, a24, a25, a26, a27, a28, a29, a30, a31] ++ [Value.int .i64 z]).toArray)] = some ((Lib.byteCells [a0, a1, a2, a3, a4, a5, a6, a7, a8, a9, a10, a11, a12, a13, a14, a15, a16, a17, a18, a19, a20, a21, a22, a23, a24, a25, a26, a27, a28, a29, a30, a31] ++ [Value.int .i64 z]) ++ [Value.slice none 0 0]).toArray := by kernel_rfl
theorem built_mf (p : Pc) (hp : p.dig.length = 32) : Tryz.prog.built 45 [(0, .agg (pcV p).toArray)] = some (pcV p ++ [Value.slice none 0 0]).toArray := by
 obtain ⟨d, z⟩ := p
 match d, hp with
 | [a0, a1, a2, a3, a4, a5, a6, a7, a8, a9, a10, a11, a12, a13, a14, a15, a16, a17, a18, a19, a20, a21, a22, a23, a24, a25, a26, a27, a28, a29, a30, a31], _ => exact built_mf0 a0 a1 a2 a3 a4 a5 a6 a7 a8 a9 a10 a11 a12 a13 a14 a15 a16 a17 a18 a19 a20 a21 a22 a23 a24 a25 a26 a27 a28 a29 a30 a31 z
theorem slice1_piece0 (a0 a1 a2 a3 a4 a5 a6 a7 a8 a9 a10 a11 a12 a13 a14 a15 a16 a17 a18 a19 a20 a21 a22 a23 a24 a25 a26 a27 a28 a29 a30 a31 : UInt8) (z : Int) (w : World) : (Instr.buildSlice 43 1 #[(0, .agg (Lib.byteCells [a0, a1, a2, a3, a4, a5, a6, a7, a8, a9, a10, a11, a12, a13, a14, a15, a16, a17, a18, a19, a20, a21, a22, a23, a24, a25, a26, a27, a28, a29, a30, a31] ++ [Value.int .i64 z]).toArray)]).run Tryz.prog w = .ok (.slice (some ⟨w.heap.size, 0, none⟩) 1 1) (w.alloc (.cells (Lib.byteCells [a0, a1, a2, a3, a4, a5, a6, a7, a8, a9, a10, a11, a12, a13, a14, a15, a16, a17, a18, a19, a20, a21, a22, a23, a24, a25, a26, a27, a28, a29, a30, a31] ++ [Value.int .i64 z]).toArray 42)) := by kernel_rfl
theorem slice1_piece (p : Pc) (hp : p.dig.length = 32) (w : World) : (Instr.buildSlice 43 1 #[(0, .agg (pcV p).toArray)]).run Tryz.prog w = .ok (.slice (some ⟨w.heap.size, 0, none⟩) 1 1) (w.alloc (.cells (pcV p).toArray 42)) := by
 obtain ⟨d, z⟩ := p
 match d, hp with
 | [a0, a1, a2, a3, a4, a5, a6, a7, a8, a9, a10, a11, a12, a13, a14, a15, a16, a17, a18, a19, a20, a21, a22, a23, a24, a25, a26, a27, a28, a29, a30, a31], _ => exact slice1_piece0 a0 a1 a2 a3 a4 a5 a6 a7 a8 a9 a10 a11 a12 a13 a14 a15 a16 a17 a18 a19 a20 a21 a22 a23 a24 a25 a26 a27 a28 a29 a30 a31 z w
theorem infoMx (pcs : List Value) (h : pcs.length = 33) (lv : Value) : (Tryz.prog.info? 45).map (·.size) = some (pcs ++ [lv]).toArray.size := by
 rw [List.size_toArray, List.length_append, h]; kernel_rfl
theorem size34 {pcs : List Value} (h : pcs.length = 33) (lv : Value) : (pcs ++ [lv]).toArray.size = 34 := by rw [List.size_toArray, List.length_append, h]; rfl
theorem one_app {pcs : List Value} (h : pcs.toArray.all (·.oneCell') = true) {A : Option Addr} {n c : Nat} : (pcs ++ [Value.slice A n c]).toArray.all (·.oneCell') = true := by
 simp only [List.all_toArray, List.all_append, Bool.and_eq_true] at h ⊢
 exact ⟨h, rfl⟩
def boxL (e : Value) (l : List V) : Value := l.foldl (fun e x => boxE x e) e
theorem boxL_is : ∀ (l : List V) (e : Value), boxL e l = if l.any badP = true then errnoV 4 else e
 | [], _ => rfl
 | x :: r, e => by
  show boxL (boxE x e) r = _
  rw [boxL_is r, List.any_cons]
  unfold boxE
  cases badP x <;> cases r.any badP <;> rfl
theorem boxL_succ {l : List V} {j : Nat} {x : V} (h : l[j]? = some x) (e : Value) : boxL e (l.take (j + 1)) = boxE x (boxL e (l.take j)) := by
 unfold boxL
 rw [List.take_add_one, h, List.foldl_append]; rfl
def zPc : Array Value := #[.int .u8 0, .int .u8 0, .int .u8 0, .int .u8 0, .int .u8 0, .int .u8 0, .int .u8 0, .int .u8 0, .int .u8 0, .int .u8 0, .int .u8 0, .int .u8 0, .int .u8 0, .int .u8 0, .int .u8 0, .int .u8 0, .int .u8 0, .int .u8 0, .int .u8 0, .int .u8 0, .int .u8 0, .int .u8 0, .int .u8 0, .int .u8 0, .int .u8 0, .int .u8 0, .int .u8 0, .int .u8 0, .int .u8 0, .int .u8 0, .int .u8 0, .int .u8 0, .int .i64 0]
theorem infoPiece : (Tryz.prog.info? 42).map (fun i => (i.zero, i.size, i.bytes)) = some (some (.agg zPc), 33, 40) := by kernel_rfl
theorem one_pcV (p : Pc) : ∀ v ∈ pcV p, v.oneCell' = true := by
 intro v hv
 have h := one_piece p.dig p.size
 rw [List.all_toArray, List.all_eq_true] at h
 exact h v hv
theorem pcC_snoc (l : List Pc) (p : Pc) : pcC (l ++ [p]) = pcC l ++ pcV p := by simp [pcC]
theorem mf_set {pcs : List Value} (h : pcs.length = 33) (a b : Value) : (pcs ++ [a]).toArray.setIfInBounds 33 b = (pcs ++ [b]).toArray := by
 rw [List.setIfInBounds_toArray, <- h, List.set_append_right _ _ (Nat.le_refl _), Nat.sub_self]; rfl
theorem mf_cell {pcs : List Value} (h : pcs.length = 33) (a : Value) : (pcs ++ [a]).toArray[33]? = some a := by
 rw [List.getElem?_toArray, <- h, List.getElem?_append_right (Nat.le_refl _), Nat.sub_self]; rfl
theorem wp_slice_piece {o : Oper} {a : Act} {w : World} {K : Act -> World -> Prop} {Q : Exit -> Act -> World -> Prop} (x : Operand) (ho : o.op = .buildSlice 43 1 #[(0, x)]) (cs : Array Value) (hr : ∀ w, (Instr.buildSlice 43 1 #[(0, .agg cs)]).run Tryz.prog w = .ok (.slice (some ⟨w.heap.size, 0, none⟩) 1 1) (w.alloc (.cells cs 42)))
  (hx : a.eval x = .agg cs) (h : K (a.put o.dst (.slice (some ⟨w.heap.size, 0, none⟩) 1 1)) (w.alloc (.cells cs 42))) : Oper.wp Tryz.prog o a w K Q := by
 unfold Oper.wp execOp
 simp only [ho, Sem.run_bind, Sem.run_pure, Result.andThen_ok, List.map_toArray, List.map_cons, List.map_nil, hx, hr]
 exact h
theorem infoMf : (Tryz.prog.info? 45).map (·.size) = some zMf.size := by kernel_rfl
theorem one_mf : zMf.all (·.oneCell') = true := by kernel_rfl
set_option maxHeartbeats 16000000 in
set_option maxRecDepth 100000 in
theorem parseManifest_any (s : B) (w : World) (hst : St w) : Calls Tryz.prog 17 #[.string ⟨s.toArray⟩] w (MPost s w) := by
 have HST := Lib.hid hst
 clear hst
 obtain ⟨b0, hb0⟩ : ∃ b0, b0 = w.heap.size := ⟨_, rfl⟩
 obtain ⟨wa, hwa⟩ : ∃ wa, wa = w.alloc (.cells #[.int .u8 0, .int .u8 0, .int .u8 0, .int .u8 0, .int .u8 0, .int .u8 0, .int .u8 0, .int .u8 0, .int .u8 0, .int .u8 0, .int .u8 0, .int .u8 0, .int .u8 0, .int .u8 0, .int .u8 0, .int .u8 0, .int .u8 0, .int .u8 0, .int .u8 0, .int .u8 0, .int .u8 0, .int .u8 0, .int .u8 0, .int .u8 0, .int .u8 0, .int .u8 0, .int .u8 0, .int .u8 0, .int .u8 0, .int .u8 0, .int .u8 0, .int .u8 0, .int .i64 0, .slice none 0 0] 45) := ⟨_, rfl⟩
 have HBR : Hid (Blk wa b0 45 zMf) := Lib.hid (by rw [hwa, hb0]; exact Blk.new _ _ _)
 have HWA : Hid (Below b0 w wa /\ wa.heap.size = b0 + 1) := Lib.hid (by rw [hwa, hb0]; exact ⟨(Below.refl _ _).alloc (Nat.le_refl _) _, by simp⟩)
 have HB0 : Hid (b0 = w.heap.size) := Lib.hid hb0
 have HPA := Lib.hid (parse_any s wa (HST.out.below (by rw [<- HB0.out]; exact HWA.out.1)))
 go_enter Tryz.func17, Tryz.ntmps17
 go_upto_region 1 with fail
 rw [<- hwa, <- hb0]
 clear hwa hb0
 go_upto_region 2 with fail
 refine HPA.out.mono ?_
 clear HPA
 intro x w1 hx
 unfold PaPost at hx
 cases hp : parse s with
 | err no r =>
  rw [hp] at hx
  obtain ⟨a, _, rfl, hb1⟩ := hx
  have hi5 : (Tryz.prog.info? 54).map (·.size) = some 5 := by kernel_rfl
  have HBR1 := Lib.hid (HBR.out.below hb1 HBR.out.lt)
  have HW1 : Hid (Below b0 w w1) := Lib.hid (HWA.out.1.trans (hb1.mono (by have := HWA.out; omega)))
  have HNO := Lib.hid (progM_err hp)
  clear hp hb1 HBR HWA
  rw [show zeroJ = Value.agg #[.int .i64 0, .int .i64 0, .string .empty, .slice none 0 0, .slice none 0 0] from rfl, show faultV no a = Value.iface 143 (.agg #[.int .i64 no, .int .i64 0, .int .i64 a]) from rfl]
  go_upto_region 2 with (refine wpList_store_row rfl 54 _ _ rfl _ _ rfl rfl 54 _ (heap_alloc_new _ _) (by simpa using hi5) (by simp) (by decide) ?_)
  obtain ⟨w2, hw2⟩ : ∃ w2, w2 = w1.alloc (.cells #[.int .i64 0, .int .i64 0, .string .empty, .slice none 0 0, .slice none 0 0] 54) := ⟨_, rfl⟩
  have HBR2 : Hid (Blk w2 b0 45 zMf) := Lib.hid (by rw [hw2]; exact HBR1.out.alloc _)
  have HW2 : Hid (Below b0 w w2) := Lib.hid (by rw [hw2]; exact HW1.out.alloc (by have := HBR1.out.lt; omega) _)
  rw [<- hw2]
  clear hw2 HBR1 HW1 hi5
  go_wp2_with (first | refine wpList_build_as rfl 45 _ rfl #[.int .u8 0, .int .u8 0, .int .u8 0, .int .u8 0, .int .u8 0, .int .u8 0, .int .u8 0, .int .u8 0, .int .u8 0, .int .u8 0, .int .u8 0, .int .u8 0, .int .u8 0, .int .u8 0, .int .u8 0, .int .u8 0, .int .u8 0, .int .u8 0, .int .u8 0, .int .u8 0, .int .u8 0, .int .u8 0, .int .u8 0, .int .u8 0, .int .u8 0, .int .u8 0, .int .u8 0, .int .u8 0, .int .u8 0, .int .u8 0, .int .u8 0, .int .u8 0, .int .i64 0, .slice none 0 0] run_empty_manifest ?_ | refine wpList_store_row rfl 45 _ _ rfl _ _ rfl rfl 45 _ HBR2.out infoMf rfl one_mf ?_)
  refine bodyPost_ret (results_row_tmp rfl _ _ b0 45 zMf (0, 0) _ rfl (setRow_same HBR2.out zMf) Tryz.underlying45 rfl infoMf) rfl ?_
  refine mpost_no HNO.out ?_
  rw [<- HB0.out]
  exact setRow_below HW2.out (Nat.le_refl _) _
 | ok h k r =>
  rw [hp] at hx
  obtain ⟨iv, kv, bs, rfl, hot, _, hb1⟩ := hx
  have HVT : Hid (VT w1 (b0 + 1) (h, k) (jcells h iv kv).toArray) := Lib.hid (VT.of_ot (v := (h, k)) (by rw [<- HWA.out.2]; exact hot))
  have HBR1 := Lib.hid (HBR.out.below hb1 HBR.out.lt)
  have HW1 : Hid (Below b0 w w1 /\ b0 + 1 ≤ w1.heap.size) := Lib.hid ⟨HWA.out.1.trans (hb1.mono (by have := HWA.out; omega)), by have := HWA.out; have := hb1.size; omega⟩
  have HPS := Lib.hid hp
  have HGD := Lib.hid (gd_parse hp)
  have hi5 : (Tryz.prog.info? 54).map (·.size) = some 5 := by kernel_rfl
  have hone : (#[.int .i64 h.kind, .int .i64 h.num, .string ⟨h.text.toArray⟩, iv, kv] : Array Value).all (·.oneCell') = true := all_oneCell_toArray HVT.out.one
  clear hp hb1 hot HBR HWA
  go_upto_region 2 with (refine wpList_store_row rfl 54 _ _ rfl _ _ rfl rfl 54 _ (heap_alloc_new _ _) (by simpa using hi5) (by simp) hone ?_)
  rw [alloc_setRow]
  go_upto_region 6 with fail
  obtain ⟨bj, hbj⟩ : ∃ bj, bj = w1.heap.size := ⟨_, rfl⟩
  have HAT : Hid (∀ wx, Below bj w1 wx -> ∀ key, Calls Tryz.prog 43 #[.agg #[.int .i64 h.kind, .int .i64 h.num, .string ⟨h.text.toArray⟩, iv, kv], .string ⟨key.toArray⟩] wx fun x w' =>
     ∃ jv jk, x = .returned (.agg #[.int .i64 (atJ (h, k) key).1.kind, .int .i64 (atJ (h, k) key).1.num, .string ⟨(atJ (h, k) key).1.text.toArray⟩, jv, jk]) /\ VT w' wx.heap.size (atJ (h, k) key) (jcells (atJ (h, k) key).1 jv jk).toArray /\ Below wx.heap.size wx w') := Lib.hid (by
   obtain ⟨iv2, kv2, S, e, htv, hS⟩ := HVT.out
   have e2 : iv = iv2 /\ kv = kv2 := by simpa [jcells] using e
   obtain ⟨rfl, rfl⟩ := e2
   intro wx hx key
   exact at_any (h, k) iv kv key S wx (htv.kept fun p hp => hx.cell (by rw [hbj]; exact (hS _ hp).2)) (fun b hb => by have := (hS b hb).2; have := hx.size; omega) (by have := HGD.out.sz; simp only at this ⊢; omega) (by have := HGD.out.deep; simp only at this ⊢; omega))
  obtain ⟨w2, hw2⟩ : ∃ w2, w2 = (w1.alloc (.cells #[.int .i64 h.kind, .int .i64 h.num, .string ⟨h.text.toArray⟩, iv, kv] 54)).alloc (.cells #[.nilIface] 32) := ⟨_, rfl⟩
  have HBJ : Hid (Blk w2 bj 54 #[.int .i64 h.kind, .int .i64 h.num, .string ⟨h.text.toArray⟩, iv, kv]) := Lib.hid (by rw [hw2, hbj]; exact (Blk.new _ _ _).alloc _)
  have HBX : Hid (Blk w2 (bj + 1) 32 #[.nilIface]) := Lib.hid (by
   have := Blk.new (w1.alloc (.cells #[.int .i64 h.kind, .int .i64 h.num, .string ⟨h.text.toArray⟩, iv, kv] 54)) 32 #[.nilIface]
   rw [hw2, hbj]; simpa using this)
  have hb2 : Below w1.heap.size w1 w2 := by rw [hw2]; exact ((Below.refl _ _).alloc (Nat.le_refl _) _).alloc (by simp) _
  have HBR2 := Lib.hid (HBR1.out.below hb2 HBR1.out.lt)
  have HVT2 := Lib.hid (HVT.out.below hb2)
  have HW2 : Hid (Below b0 w w2 /\ b0 + 1 ≤ bj /\ w2.heap.size = bj + 2) := Lib.hid ⟨HW1.out.1.trans (hb2.mono (by have := HW1.out; omega)), by rw [hbj]; exact HW1.out.2, by rw [hw2, hbj]; simp⟩
  have HWJ : Hid (Below bj w1 w2) := Lib.hid (by rw [hbj]; exact hb2)
  try rw [show w1.heap.size + 1 = bj + 1 by rw [hbj]]
  rw [<- hw2, <- hbj]
  clear hw2 hbj hb2 HBR1 HW1 hi5 hone HVT HVT2
  have x0 := HBJ.out.cell 0
  have x1 := HBJ.out.cell 1
  have x2 := HBJ.out.cell 2
  have x3 := HBJ.out.cell 3
  have x4 := HBJ.out.cell 4
  go_upto_region 7 with fail
  refine (HAT.out w2 HWJ.out kCfg).mono ?_
  rintro x w3 ⟨jv, jk, rfl, hv3, h3⟩
  obtain ⟨u, hu⟩ : ∃ u, u = atJ (h, k) kCfg := ⟨_, rfl⟩
  have HU := Lib.hid hu
  have HGU : Hid (Gd u) := Lib.hid (by rw [hu]; exact HGD.out.at _)
  rw [<- hu] at hv3 ⊢
  clear hu
  have HRD : Hid (Calls Tryz.prog 51 #[.agg #[.int .i64 u.1.kind, .int .i64 u.1.num, .string ⟨u.1.text.toArray⟩, jv, jk], .pointer (some ⟨bj + 1, 0, none⟩)] w3 fun x w' =>
   x = .returned (.agg (pcV (readP u)).toArray) /\ Kp w3.heap.size (fun b => b = bj + 1) w3 w' /\ Blk w' (bj + 1) 32 #[boxE u .nilIface]) := Lib.hid (by
   obtain ⟨iv2, kv2, S, e, htv, hS⟩ := hv3
   have e2 : jv = iv2 /\ jk = kv2 := by simpa [jcells] using e
   obtain ⟨rfl, rfl⟩ := e2
   exact read_any u jv jk S (bj + 1) .nilIface w3 (HBX.out.below h3 HBX.out.lt) htv (fun b hb => (hS b hb).2) (fun hb => by have := (hS _ hb).1; have := HW2.out; omega) HGU.out)
  have HBR3 := Lib.hid (HBR2.out.below h3 HBR2.out.lt)
  have HBJ3 := Lib.hid (HBJ.out.below h3 HBJ.out.lt)
  have HW3 : Hid (Below b0 w w3 /\ Below bj w1 w3 /\ bj + 2 ≤ w3.heap.size /\ b0 + 1 ≤ bj) := Lib.hid ⟨HW2.out.1.trans (h3.mono (by have := HW2.out; omega)), HWJ.out.trans (h3.mono (by have := HW2.out; omega)), by have := HW2.out; have := h3.size; omega, HW2.out.2.1⟩
  clear hv3 h3 x0 x1 x2 x3 x4 HBX HBR2 HBJ HW2 HWJ
  go_upto_region 7 with fail
  refine HRD.out.mono ?_
  rintro x w4 ⟨rfl, hk4, hx4⟩
  have HRL : Hid ((readP u).dig.length = 32) := Lib.hid (readP_len u)
  obtain ⟨pcs, hpcs⟩ : ∃ pcs, pcs = pcV (readP u) := ⟨_, rfl⟩
  have HPC : Hid (pcs = pcV (readP u) /\ pcs.length = 33 /\ pcs.toArray.all (·.oneCell') = true) := Lib.hid ⟨hpcs, by rw [hpcs]; exact pcV_len HRL.out, by rw [hpcs]; exact one_piece _ _⟩
  have hb4 := built_mf (readP u) HRL.out
  have HBX4 : Hid (Blk w4 (bj + 1) 32 #[boxE u .nilIface]) := Lib.hid hx4
  have HBR4 : Hid (Blk w4 b0 45 zMf) := Lib.hid (hk4.blk HBR3.out HBR3.out.lt (by have := HW3.out; omega))
  have HBJ4 : Hid (Blk w4 bj 54 #[.int .i64 h.kind, .int .i64 h.num, .string ⟨h.text.toArray⟩, iv, kv]) := Lib.hid (hk4.blk HBJ3.out HBJ3.out.lt (by omega))
  have hbw4 : Below bj w3 w4 := Kp.below (hk4.mono (by have := HW3.out; omega) (fun k hk e => by omega))
  have HW4 : Hid (Below b0 w w4 /\ Below bj w1 w4 /\ bj + 2 ≤ w4.heap.size /\ b0 + 1 ≤ bj) := Lib.hid ⟨HW3.out.1.trans (hbw4.mono (by have := HW3.out; omega)), HW3.out.2.1.trans hbw4, by have := HW3.out; have := hk4.size; omega, HW3.out.2.2.2⟩
  rw [<- hpcs] at hb4 ⊢
  clear hk4 hx4 hpcs hbw4 HBR3 HBJ3 HW3 HRD
  go_upto_region 7 with (first | refine wpList_build_to rfl 45 _ rfl [(0, .agg pcs.toArray)] (by simp only [List.map_toArray, List.map_cons, List.map_nil]; rfl) _ hb4 ?_ | refine wpList_store_row rfl 45 _ _ rfl _ _ rfl rfl 45 _ (heap_alloc_new _ _) (infoMx pcs HPC.out.2.1 _) (by exact (size34 HPC.out.2.1 _).symm) (one_app HPC.out.2.2) ?_)
  rw [alloc_setRow]
  obtain ⟨bm, hbm⟩ : ∃ bm, bm = w4.heap.size := ⟨_, rfl⟩
  obtain ⟨w5, hw5⟩ : ∃ w5, w5 = w4.alloc (.cells (pcs ++ [Value.slice none 0 0]).toArray 45) := ⟨_, rfl⟩
  have HBM5 : Hid (Blk w5 bm 45 (pcs ++ [Value.slice none 0 0]).toArray) := Lib.hid (by rw [hw5, hbm]; exact Blk.new _ _ _)
  have hb5 : Below w4.heap.size w4 w5 := by rw [hw5]; exact (Below.refl _ _).alloc (Nat.le_refl _) _
  have HBR5 := Lib.hid (HBR4.out.below hb5 HBR4.out.lt)
  have HBX5 := Lib.hid (HBX4.out.below hb5 HBX4.out.lt)
  have HBJ5 := Lib.hid (HBJ4.out.below hb5 HBJ4.out.lt)
  have HW5 : Hid (Below b0 w w5 /\ Below bj w1 w5 /\ bj + 2 ≤ bm /\ b0 + 1 ≤ bj /\ w5.heap.size = bm + 1) := Lib.hid ⟨HW4.out.1.trans (hb5.mono (by have := HW4.out; omega)), HW4.out.2.1.trans (hb5.mono (by have := HW4.out; omega)), by rw [hbm]; exact HW4.out.2.2.1, HW4.out.2.2.2, by rw [hw5, hbm]; simp⟩
  rw [<- hw5, <- hbm]
  clear hw5 hbm hb5 hb4 HBR4 HBX4 HBJ4 HW4
  have x0 := HBJ5.out.cell 0
  have x1 := HBJ5.out.cell 1
  have x2 := HBJ5.out.cell 2
  have x3 := HBJ5.out.cell 3
  have x4 := HBJ5.out.cell 4
  go_upto_region 8 with fail
  refine (HAT.out w5 HW5.out.2.1 kLayers).mono ?_
  rintro x w6 ⟨lv, lk, rfl, hv6, h6⟩
  obtain ⟨q, hq⟩ : ∃ q, q = atJ (h, k) kLayers := ⟨_, rfl⟩
  have HQ := Lib.hid hq
  have HGQ : Hid (Gd q) := Lib.hid (by rw [hq]; exact HGD.out.at _)
  rw [<- hq] at hv6 ⊢
  obtain ⟨n, hn⟩ : ∃ n, n = q.2.len := ⟨_, rfl⟩
  have HN : Hid (n = q.2.len /\ n ≤ 4194304) := Lib.hid ⟨hn, by rw [hn]; exact HGQ.out.len⟩
  obtain ⟨lv2, lk2, SQ, e, htv, hS⟩ := hv6
  have e2 : lv = lv2 /\ lk = lk2 := by simpa [jcells] using e
  obtain ⟨rfl, rfl⟩ := e2
  obtain ⟨A1, c1, A2, c2, us, ecs, hlk, ⟨hlq, _⟩, hr1, htr, hr2⟩ := htv
  have eiv : lv = .slice A1 q.2.len c1 /\ lk = .slice A2 q.1.keys.length c2 := by
   simp only [encJ, jcells, List.cons.injEq, and_true, true_and] at ecs
   exact ecs
  obtain ⟨rfl, rfl⟩ := eiv
  have HTR := Lib.hid htr
  have HR1 : Hid (RdS w6 SQ 5 A1 n us) := Lib.hid (by rw [hn]; exact hr1)
  have HSQ : Hid (∀ b, SQ b -> bm + 1 ≤ b /\ b < w6.heap.size) := Lib.hid (fun b hb => by have := hS b hb; have := HW5.out; omega)
  have HBM6 := Lib.hid (HBM5.out.below h6 HBM5.out.lt)
  have HBR6 := Lib.hid (HBR5.out.below h6 HBR5.out.lt)
  have HBX6 := Lib.hid (HBX5.out.below h6 HBX5.out.lt)
  have HW6 : Hid (Below b0 w w6 /\ bj + 2 ≤ bm /\ b0 + 1 ≤ bj /\ bm + 1 ≤ w6.heap.size) := Lib.hid ⟨HW5.out.1.trans (h6.mono (by have := HW5.out; omega)), HW5.out.2.2.1, HW5.out.2.2.2.1, by have := HW5.out; have := h6.size; omega⟩
  rw [<- hn]
  clear x0 x1 x2 x3 x4 hq hn e hS hr1 htr hr2 ecs hlk hlq h6 HBM5 HBR5 HBX5 HBJ5 HW5 HAT
  have hf3 := run_json3
  go_upto_region 8 with fail
  clear hf3
  obtain ⟨j0, hjI, hy0, hy1, hy2⟩ := info_parts infoPiece
  obtain ⟨BL, hBL⟩ : ∃ BL, BL = w6.heap.size := ⟨_, rfl⟩
  have HBL : Hid (BL = w6.heap.size /\ bm + 1 ≤ BL /\ bj + 2 ≤ bm /\ b0 + 1 ≤ bj) := Lib.hid ⟨hBL, by rw [hBL]; exact HW6.out.2.2.2, HW6.out.2.1, HW6.out.2.2.1⟩
  clear hBL
  go_loopw [32] (fun ix wr => ∃ (j : Nat) (pv : Value), j ≤ n /\ ix = .int .i64 j /\ Hid (Blk wr bm 45 (pcs ++ [pv]).toArray) /\ Hid (wr.ownsRow BL 42 33 pv j (pcC (((toL q.2).take j).map readP))) /\ Hid (Blk wr (bj + 1) 32 #[boxL (boxE u .nilIface) ((toL q.2).take j)]) /\ Hid (Kp BL (fun b => b = bj + 1 ∨ b = bm) w6 wr)) (fun ix _ => n - (intOf ix).toNat)
  case atStart => exact ⟨0, _, by omega, rfl, HBM6, Lib.hid (World.ownsRow_nil _ _ _ _), HBX6, Lib.hid (Kp.refl _ _ _)⟩
  case round =>
   clear HBM6 HBX6
   obtain ⟨j, pv, hj, rfl, HBM, HO, HBX, HK⟩ := hrel
   by_cases hjl : j < n
   . have hkp : ∀ p : Addr, SQ p.block -> wr.cell? p = w6.cell? p := fun p hp => HK.out.cell (by have := (HSQ.out _ hp).2; have := HBL.out.1; omega) (fun e => by have := (HSQ.out _ hp).1; have := HBL.out; omega)
     obtain ⟨ad, rfl, hab, hcs⟩ := ((HR1.out.kept hkp).reads (B := wr.heap.size) (fun b hb => by have := (HSQ.out _ hb).2; have := HK.out.size; have := HBL.out.1; omega)).2 (by omega)
     obtain ⟨h0, kk, he, _, htv⟩ := (HTR.out.kept hkp).at_ (i := j) (by have := HN.out.1; omega)
     have HG0 : Hid (Gd (h0, kk)) := Lib.hid (HGQ.out.kid he)
     have HTK : Hid (((toL q.2).take (j + 1)).map readP = ((toL q.2).take j).map readP ++ [readP (h0, kk)] /\ boxL (boxE u .nilIface) ((toL q.2).take (j + 1)) = boxE (h0, kk) (boxL (boxE u .nilIface) ((toL q.2).take j))) := Lib.hid ⟨by rw [List.take_add_one, he, List.map_append]; rfl, boxL_succ he _⟩
     have htv1 := htv
     obtain ⟨A4, c4, A5, c5, us2, ecs, _⟩ := htv
     obtain ⟨cc0, cc1, cc2, cc3, cc4⟩ := cells5 hcs ecs
     have HTV : Hid (TV encJ wr SQ h0 kk (jcells h0 (.slice A4 kk.len c4) (.slice A5 h0.keys.length c5))) := Lib.hid (by rw [ecs] at htv1; exact htv1)
     clear ecs htv1 hcs hab he hkp
     go_upto_region 10 with fail
     obtain ⟨wa, hwa⟩ : ∃ wa, wa = wr.alloc (.cells #[.int .i64 h0.kind, .int .i64 h0.num, .string ⟨h0.text.toArray⟩, .slice A4 kk.len c4, .slice A5 h0.keys.length c5] 54) := ⟨_, rfl⟩
     obtain ⟨bt, hbt⟩ : ∃ bt, bt = wr.heap.size := ⟨_, rfl⟩
     have hb1 : Below wr.heap.size wr wa := by rw [hwa]; exact (Below.refl _ _).alloc (Nat.le_refl _) _
     have HBT : Hid (Blk wa bt 54 #[.int .i64 h0.kind, .int .i64 h0.num, .string ⟨h0.text.toArray⟩, .slice A4 kk.len c4, .slice A5 h0.keys.length c5]) := Lib.hid (by rw [hwa, hbt]; exact Blk.new _ _ _)
     have HBTS : Hid (BL ≤ bt /\ wa.heap.size = bt + 1) := Lib.hid (by rw [hwa, hbt]; exact ⟨by have := HK.out.size; have := HBL.out.1; omega, by simp⟩)
     have HBMa := Lib.hid (HBM.out.below hb1 HBM.out.lt)
     have HOa := Lib.hid (own_kept HO.out hb1)
     have HBXa := Lib.hid (HBX.out.below hb1 HBX.out.lt)
     have HKa : Hid (Kp BL (fun b => b = bj + 1 ∨ b = bm) w6 wa) := Lib.hid (HK.out.step hb1 (by rw [<- hbt]; exact HBTS.out.1))
     have HTVa : Hid (TV encJ wa SQ h0 kk (jcells h0 (.slice A4 kk.len c4) (.slice A5 h0.keys.length c5))) := Lib.hid (HTV.out.kept fun p hp => hb1.cell (by have := (HSQ.out _ hp).2; have := HBL.out.1; have := HK.out.size; omega))
     rw [<- hwa, <- hbt]
     clear hwa hbt hb1 cc0 cc1 cc2 cc3 cc4 HBM HO HBX HK HTV
     have HRD : Hid (∀ wy, Below wa.heap.size wa wy -> Calls Tryz.prog 51 #[.agg #[.int .i64 h0.kind, .int .i64 h0.num, .string ⟨h0.text.toArray⟩, .slice A4 kk.len c4, .slice A5 h0.keys.length c5], .pointer (some ⟨bj + 1, 0, none⟩)] wy fun x w' =>
       x = .returned (.agg (pcV (readP (h0, kk))).toArray) /\ Kp wy.heap.size (fun b => b = bj + 1) wy w' /\ Blk w' (bj + 1) 32 #[boxE (h0, kk) (boxL (boxE u .nilIface) ((toL q.2).take j))]) := Lib.hid (fun wy hy =>
         read_any (h0, kk) (.slice A4 kk.len c4) (.slice A5 h0.keys.length c5) SQ (bj + 1) _ wy (HBXa.out.below hy HBXa.out.lt) (HTVa.out.kept fun p hp => hy.cell (by have := (HSQ.out _ hp).2; have := HBL.out.1; have := HBTS.out; omega)) (fun b hb => by have := (HSQ.out _ hb).2; have := HBL.out.1; have := HBTS.out; have := hy.size; omega) (fun hb => by have := (HSQ.out _ hb).1; have := HBL.out; omega) HG0.out)
     have HXL : Hid ((readP (h0, kk)).dig.length = 32) := Lib.hid (readP_len _)
     obtain ⟨px, hpx⟩ : ∃ px, px = pcV (readP (h0, kk)) := ⟨_, rfl⟩
     have HPX : Hid (px = pcV (readP (h0, kk)) /\ px.length = 33 /\ ∀ v ∈ px, v.oneCell' = true) := Lib.hid ⟨hpx, by rw [hpx]; exact pcV_len HXL.out, by rw [hpx]; exact one_pcV _⟩
     have hsl := slice1_piece (readP (h0, kk)) HXL.out
     rw [<- hpx] at hsl HRD
     clear hpx
     obtain ⟨A9, c9, epv, _⟩ := own_readsN HOa.out
     subst epv
     have hrj : ∀ wy, Blk wy bt 54 #[.int .i64 h0.kind, .int .i64 h0.num, .string ⟨h0.text.toArray⟩, .slice A4 kk.len c4, .slice A5 h0.keys.length c5] -> wy.rangeAt bt 0 (#[.int .i64 h0.kind, .int .i64 h0.num, .string ⟨h0.text.toArray⟩, .slice A4 kk.len c4, .slice A5 h0.keys.length c5] : Array Value).toList := fun wy h jj v hv => by rw [Nat.zero_add, h.cell]; simpa using hv
     have HRJ := Lib.hid hrj
     have hm33 : ∀ (wy : World) (a : Value), Blk wy bm 45 (pcs ++ [a]).toArray -> wy.cell? ⟨bm, 33, none⟩ = some a := fun wy a h => by rw [h.cell]; exact mf_cell HPC.out.2.1 a
     have HM33 := Lib.hid hm33
     refine wp_region_R (S := (fun wy => wy.cell? ⟨bm, 33, none⟩ = some (.slice A9 j c9) /\ wy.rangeAt bt 0 (#[.int .i64 h0.kind, .int .i64 h0.num, .string ⟨h0.text.toArray⟩, .slice A4 kk.len c4, .slice A5 h0.keys.length c5] : Array Value).toList)) 8 (by kernel_rfl) ⟨hm33 _ _ HBMa.out, hrj _ HBT.out⟩ (fun hHeld => ?_)
     clear hrj hm33
     refine tkR 0 (hS := hHeld) (h := ?_)
     try simp only [Act.put, List.setIfInBounds_toArray, List.set_cons_zero, List.set_cons_succ]
     refine tkR 1 (hS := hHeld) (h := ?_)
     try simp only [Act.put, List.setIfInBounds_toArray, List.set_cons_zero, List.set_cons_succ]
     refine tkR 2 (hS := hHeld) (h := ?_)
     try simp only [Act.put, List.setIfInBounds_toArray, List.set_cons_zero, List.set_cons_succ]
     refine wpAnyR_take (i := 3) (by kernel_rfl) (by simp only [List.getElem?_toArray, List.getElem?_cons_succ, List.getElem?_cons_zero]; rfl) (by kernel_rfl) (by kernel_rfl) (by kernel_rfl) (by exact fun _ _ _ h => h) (yieldsIf_load_mid (by rfl) _ _ rfl _ _ rfl (#[.int .i64 h0.kind, .int .i64 h0.num, .string ⟨h0.text.toArray⟩, .slice A4 kk.len c4, .slice A5 h0.keys.length c5] : Array Value).toList _ (fun _ h => h.2) Tryz.underlying54 rfl (by kernel_rfl)) hHeld ?_
     try simp only [Act.put, List.setIfInBounds_toArray, List.set_cons_zero, List.set_cons_succ]
     refine oneR 4 (fun K hK => ?_)
     rw [if_pos (by rfl)]
     go_simp
     refine (HRD.out _ (by exact ((Below.refl wa.heap.size wa).drew))).mono ?_
     rintro y w7 ⟨rfl, hk7, hx7⟩
     have hk7 : Kp wa.heap.size (fun b => b = bj + 1) wa w7 := ((Kp.refl wa.heap.size (fun b => b = bj + 1) wa).drew).trans hk7
     have HBM7 : Hid (Blk w7 bm 45 (pcs ++ [Value.slice A9 j c9]).toArray) := Lib.hid (hk7.blk HBMa.out HBMa.out.lt (by have := HBL.out; omega))
     have HBT7 : Hid (Blk w7 bt 54 #[.int .i64 h0.kind, .int .i64 h0.num, .string ⟨h0.text.toArray⟩, .slice A4 kk.len c4, .slice A5 h0.keys.length c5]) := Lib.hid (hk7.blk HBT.out HBT.out.lt (by have := HBL.out; have := HBTS.out; omega))
     have HO7 : Hid (w7.ownsRow BL 42 33 (.slice A9 j c9) j (pcC (((toL q.2).take j).map readP))) := Lib.hid (own_at HOa.out fun b hb => hk7.block b (own_lt HOa.out hb).2 (by have := (own_lt HOa.out hb).1; have := HBL.out; omega))
     have HBX7 : Hid (Blk w7 (bj + 1) 32 #[boxE (h0, kk) (boxL (boxE u .nilIface) ((toL q.2).take j))]) := Lib.hid hx7
     have HK7 : Hid (Kp BL (fun b => b = bj + 1 ∨ b = bm) w6 w7 /\ bt + 1 ≤ w7.heap.size) := Lib.hid ⟨HKa.out.trans (hk7.mono (by have := HBTS.out; omega) (fun k hk e => .inl e)), by have := HBTS.out; have := hk7.size; omega⟩
     refine hK.out _ _ (fun _ => ⟨HM33.out _ _ HBM7.out, HRJ.out _ HBT7.out⟩) (fun _ => ?_)
     clear hK hk7 hx7 hHeld HBMa HBT HOa HBXa HKa HTVa HRD
     try simp only [Act.put, List.setIfInBounds_toArray, List.set_cons_zero, List.set_cons_succ]
     refine oneR 5 (fun K hK => ?_)
     rw [if_pos (by rfl)]
     refine wp_slice_piece _ rfl px.toArray hsl rfl ?_
     obtain ⟨wq, hwq⟩ : ∃ wq, wq = w7.alloc (.cells px.toArray 42) := ⟨_, rfl⟩
     have hbq : Below w7.heap.size w7 wq := by rw [hwq]; exact (Below.refl _ _).alloc (Nat.le_refl _) _
     have HG : Hid (wq.heap[w7.heap.size]? = some (.cells px.toArray 42) /\ wq.heap.size = w7.heap.size + 1) := Lib.hid (by rw [hwq]; exact ⟨heap_alloc_new _ _, by simp⟩)
     have HBMq := Lib.hid (HBM7.out.below hbq HBM7.out.lt)
     have HBTq := Lib.hid (HBT7.out.below hbq HBT7.out.lt)
     have HBXq := Lib.hid (HBX7.out.below hbq HBX7.out.lt)
     have HOq := Lib.hid (own_kept HO7.out hbq)
     have HKq : Hid (Kp BL (fun b => b = bj + 1 ∨ b = bm) w6 wq /\ BL ≤ wq.heap.size) := Lib.hid ⟨HK7.out.1.step hbq (by have := HK7.out; have := HBTS.out; omega), by have := HK7.out; have := HBTS.out; have := hbq.size; omega⟩
     refine hK.out _ _ (fun _ => by (try rw [<- hwq]); exact ⟨HM33.out _ _ HBMq.out, HRJ.out _ HBTq.out⟩) (fun _ => ?_)
     clear hK
     (try rw [<- hwq])
     clear hwq hbq HBM7 HBT7 HBX7 HO7 HK7 hsl
     try simp only [Act.put, List.setIfInBounds_toArray, List.set_cons_zero, List.set_cons_succ]
     have hrx : Reads wq wq.heap.size 33 (some ⟨w7.heap.size, 0, none⟩) 1 px := by
       have := Reads.of_block (size := 33) (n := 1) HG.out.1 (by rw [List.size_toArray, HPX.out.2.1])
       simpa using this
     refine oneR 6 (fun K hK => ?_)
     rw [if_pos (by rfl)]
     refine wp_append_any (P := Tryz.prog) _ _ _ 43 rfl BL 42 j0 _ 33 40 Tryz.underlying43 hjI hy0 hy1 hy2 rfl (by decide) (.slice A9 j c9) j _ rfl HOq.out wq.heap.size (some ⟨w7.heap.size, 0, none⟩) 1 1 px rfl hrx HPX.out.2.2 (by have := HN.out.2; unfold maxLen; omega) (by have := HN.out.2; omega) HKq.out.2 ?_
     clear hrx
     intro v2 w8 g1 g2 g3
     obtain ⟨A8, c8, e2, _⟩ := own_readsN g1
     subst e2
     have HO8 : Hid (w8.ownsRow BL 42 33 (.slice A8 (j + 1) c8) (j + 1) (pcC (((toL q.2).take (j + 1)).map readP))) := Lib.hid (by
       rw [HTK.out.1, pcC_snoc, <- HPX.out.1]; exact g1)
     have HBM8 := Lib.hid (HBMq.out.grown g2 (fun e => by have := (own_lt HOq.out e.symm).1; have := HBL.out; omega))
     have HBX8 := Lib.hid (HBXq.out.grown g2 (fun e => by have := (own_lt HOq.out e.symm).1; have := HBL.out; omega))
     have HBT8 : Hid (Blk w8 bt 54 #[.int .i64 h0.kind, .int .i64 h0.num, .string ⟨h0.text.toArray⟩, .slice A4 kk.len c4, .slice A5 h0.keys.length c5]) := Lib.hid (HBTq.out.grown g2 (fun e => own_blk_ne HOq.out HBTq.out (by decide) e.symm))
     have HK8 : Hid (Kp BL (fun b => b = bj + 1 ∨ b = bm) w6 w8) := Lib.hid (HKq.out.1.grown g2 HKq.out.2 (fun g e => .inl (own_lt HOq.out e).1))
     refine hK.out _ _ (fun _ => ⟨HM33.out _ _ HBM8.out, HRJ.out _ HBT8.out⟩) (fun _ => ?_)
     clear hK g1 g2 g3 HBMq HBTq HBXq HOq HKq HG
     try simp only [Act.put, List.setIfInBounds_toArray, List.set_cons_zero, List.set_cons_succ]
     refine tkR 7 (hS := ⟨HM33.out _ _ HBM8.out, HRJ.out _ HBT8.out⟩) (h := ?_)
     try simp only [Act.put, List.setIfInBounds_toArray, List.set_cons_zero, List.set_cons_succ]
     have k3 := HM33.out _ _ HBM8.out
     refine oneR 8 (fun K hK => ?_)
     rw [if_pos (by rfl)]
     have l3 := HBM8.out.frozen 33
     go_simp
     refine hK.out _ _ (fun h => absurd rfl h) (fun _ => ?_)
     clear hK k3 l3
     try simp only [Act.put]
     refine wpAnyR_done (by kernel_rfl) ?_ _
     have hjn : j ≤ 4194304 := by have := HN.out.2; omega
     go_wp2_with fail
     refine ⟨⟨j + 1, .slice A8 (j + 1) c8, by omega, by push_cast; rfl, Lib.hid ?_, Lib.hid ?_, Lib.hid ?_, Lib.hid ?_⟩, ?_⟩
     . have h1 := HBM8.out.set_ 33 (.slice A8 (j + 1) c8)
       rw [mf_set HPC.out.2.1] at h1
       exact h1
     . exact own_at HO8.out fun b hb => Below.heap_setCell w8 ⟨bm, 33, none⟩ _ b (by show b ≠ bm; have := (own_lt HO8.out hb).1; have := HBL.out; omega)
     . rw [HTK.out.2]
       exact HBX8.out.far (by show bj + 1 ≠ bm; have := HBL.out; omega) _
     . exact Kp.setCell (X := fun b => b = bj + 1 ∨ b = bm) (p := ⟨bm, 33, none⟩) HK8.out (.inr (.inr rfl)) _
     . show n - ((j : Int) + 1).toNat < n - ((j : Int)).toNat
       omega
   . obtain rfl : j = n := by omega
     obtain ⟨we, hwe⟩ : ∃ we, we = wr := ⟨_, rfl⟩
     subst hwe
     have HTE : Hid ((toL q.2).take j = toL q.2 /\ (toL q.2).length = j) := Lib.hid (by have h1 := toL_len q.2; exact ⟨by rw [HN.out.1, <- h1, List.take_length], by rw [h1, HN.out.1]⟩)
     rw [HTE.out.1] at HO HBX
     obtain ⟨M, hM⟩ : ∃ M, M = readM (h, k) := ⟨_, rfl⟩
     have HM : Hid (M = readM (h, k) /\ pcV M.cfg = pcs /\ M.layers = (toL q.2).map readP /\ M.layers.length = j /\ MfOk M) := Lib.hid (by
       have e1 : M.layers = (toL q.2).map readP := by rw [hM, HQ.out]; rfl
       exact ⟨hM, by rw [hM, HPC.out.1, HU.out]; rfl, e1, by rw [e1, List.length_map]; exact HTE.out.2, by rw [hM]; exact readM_ok HGD.out⟩)
     obtain ⟨E, hE⟩ : ∃ E, E = boxL (boxE u .nilIface) (toL q.2) := ⟨_, rfl⟩
     have HE : Hid (E = if badM (h, k) = true then errnoV 4 else .nilIface) := Lib.hid (by
       rw [hE, boxL_is]
       unfold badM boxE
       rw [<- HU.out, <- HQ.out]
       cases badP u <;> cases (toL q.2).any badP <;> rfl)
     rw [<- hE] at HBX
     clear hE hM
     obtain ⟨A9, c9, epv, hrd⟩ := own_readsN HO.out
     subst epv
     have HBWe : Hid (Below b0 w we) := Lib.hid (HW6.out.1.trans (Kp.below (HK.out.mono (by have := HBL.out; omega) (fun k hk e => by have := HBL.out; omega))))
     have HBRe : Hid (Blk we b0 45 zMf) := Lib.hid (HK.out.blk HBR6.out (by have := HBL.out; omega) (by have := HBL.out; omega))
     have HMF : Hid (Calls Tryz.prog 16 #[.agg (pcs ++ [Value.slice A9 j c9]).toArray] we fun x w' => x = .returned (.tuple #[.string ⟨(mfP M).1.toArray⟩, errV (mfP M).2]) /\ Below we.heap.size we w') := Lib.hid (by
       have h1 := manifest_any M A9 c9 we HM.out.2.2.2.2 (by rw [HM.out.2.2.2.1, HM.out.2.2.1]; exact hrd) (by have := HN.out.2; have := HM.out.2.2.2.1; omega) (HST.out.below (by rw [<- HB0.out]; exact HBWe.out))
       rw [HM.out.2.1, HM.out.2.2.2.1] at h1
       exact h1)
     have hrg : we.rangeAt bm 0 (pcs ++ [Value.slice A9 j c9]) := fun jj v hv => by rw [Nat.zero_add, HBM.out.cell]; simpa using hv
     have hifm : (Tryz.prog.info? 45).map (·.size) = some (pcs ++ [Value.slice A9 j c9]).length := by have h1 := infoMx pcs HPC.out.2.1 (Value.slice A9 j c9); simpa using h1
     clear hrd HK HBR6 HW6 HR1 HTR HSQ
     go_upto_region 13 with (refine wpList_load_mid rfl 45 _ rfl bm 0 rfl _ _ hrg Tryz.underlying45 rfl hifm ?_)
     refine HMF.out.mono ?_
     clear HMF hrg hifm
     rintro x wf ⟨rfl, hbf⟩
     have HBXf := Lib.hid (HBX.out.below hbf HBX.out.lt)
     have HBRf := Lib.hid (HBRe.out.below hbf HBRe.out.lt)
     have HBMf := Lib.hid (HBM.out.below hbf HBM.out.lt)
     have HOf := Lib.hid (own_kept HO.out hbf)
     have HWf : Hid (Below b0 w wf) := Lib.hid (HBWe.out.trans (hbf.mono (by have := HBRe.out.lt; omega)))
     clear hbf HBX HBRe HBM HO HBWe
     obtain ⟨T, hT⟩ : ∃ T, T = (mfP M).1 := ⟨_, rfl⟩
     obtain ⟨no, hno⟩ : ∃ no, no = (mfP M).2 := ⟨_, rfl⟩
     have HP : Hid (mfP M = (T, no)) := Lib.hid (by rw [hT, hno])
     rw [<- hT, <- hno]
     clear hT hno
     have x0 := HBXf.out.cell 0
     cases hbm : badM (h, k) with
     | true =>
       have HNO := Lib.hid (progM_bad HPS.out (.inl hbm))
       have e1 : E = Value.iface 110 (.int .i64 4) := by rw [HE.out, hbm]; rfl
       rw [e1] at x0
       clear e1 hbm
       go_upto_region 14 with fail
       clear x0
       go_wp2_with (first | refine wpList_build_as rfl 45 _ rfl #[.int .u8 0, .int .u8 0, .int .u8 0, .int .u8 0, .int .u8 0, .int .u8 0, .int .u8 0, .int .u8 0, .int .u8 0, .int .u8 0, .int .u8 0, .int .u8 0, .int .u8 0, .int .u8 0, .int .u8 0, .int .u8 0, .int .u8 0, .int .u8 0, .int .u8 0, .int .u8 0, .int .u8 0, .int .u8 0, .int .u8 0, .int .u8 0, .int .u8 0, .int .u8 0, .int .u8 0, .int .u8 0, .int .u8 0, .int .u8 0, .int .u8 0, .int .u8 0, .int .i64 0, .slice none 0 0] run_empty_manifest ?_ | refine wpList_store_row rfl 45 _ _ rfl _ _ rfl rfl 45 _ HBRf.out infoMf rfl one_mf ?_)
       refine bodyPost_ret (results_row_tmp rfl _ _ b0 45 zMf (0, 0) _ rfl (setRow_same HBRf.out zMf) Tryz.underlying45 rfl infoMf) rfl ?_
       refine mpost_no HNO.out ?_
       rw [<- HB0.out]
       exact setRow_below HWf.out (Nat.le_refl _) _
     | false =>
       have e1 : E = Value.nilIface := by rw [HE.out, hbm]; rfl
       rw [e1] at x0
       clear e1
       by_cases h0 : no = 0
       . rw [h0, show errV 0 = Value.nilIface from rfl]
         by_cases hts : T = s
         . have HYES := Lib.hid (progM_good HPS.out hbm (by rw [<- HM.out.1, HP.out, hts, h0]))
           rw [hts]
           clear hts h0 hbm
           have hrg : wf.rangeAt bm 0 (pcs ++ [Value.slice A9 j c9]) := fun jj v hv => by rw [Nat.zero_add, HBMf.out.cell]; simpa using hv
           have hifm : (Tryz.prog.info? 45).map (·.size) = some (pcs ++ [Value.slice A9 j c9]).length := by have h1 := infoMx pcs HPC.out.2.1 (Value.slice A9 j c9); simpa using h1
           go_upto_region 15 with fail
           clear x0
           go_wp2_with (first | refine wpList_load_mid rfl 45 _ rfl bm 0 rfl _ _ hrg Tryz.underlying45 rfl hifm ?_ | refine wpList_store_row rfl 45 _ _ rfl _ _ rfl rfl 45 _ HBRf.out (infoMx pcs HPC.out.2.1 _) (by exact (size34 HPC.out.2.1 _).symm) (one_app HPC.out.2.2) ?_)
           refine bodyPost_ret (results_row_tmp rfl _ _ b0 45 (pcs ++ [Value.slice A9 j c9]).toArray (0, 0) _ rfl (setRow_same HBRf.out _) Tryz.underlying45 rfl (infoMx pcs HPC.out.2.1 _)) rfl ?_
           unfold MPost
           rw [HYES.out]
           refine ⟨?_, .slice A9 j c9, ?_, ?_, ?_, ?_⟩
           . rw [<- HB0.out]; exact setRow_below HWf.out (Nat.le_refl _) _
           . rw [<- HM.out.1, HM.out.2.1]; rfl
           . rw [<- HM.out.1, HM.out.2.2.2.1, HM.out.2.2.1]
             exact Js.own_less (own_at HOf.out fun b hb => setRow_other wf b0 b _ (by have := (own_lt HOf.out hb).1; have := HBL.out; omega)) (by have := HBL.out; have := HB0.out; omega)
           . rw [<- HM.out.1]; exact HM.out.2.2.2.2
           . rw [<- HM.out.1, HM.out.2.2.2.1]; exact HN.out.2
         . have HNO := Lib.hid (progM_bad HPS.out (.inr (by rw [<- HM.out.1, HP.out]; intro e; injection e with e1 e2; exact hts e1)))
           have hts2 : (T == s) = false := by simpa using hts
           clear h0 hbm
           go_upto_region 14 with fail
           clear x0 hts2
           go_wp2_with (first | refine wpList_build_as rfl 45 _ rfl #[.int .u8 0, .int .u8 0, .int .u8 0, .int .u8 0, .int .u8 0, .int .u8 0, .int .u8 0, .int .u8 0, .int .u8 0, .int .u8 0, .int .u8 0, .int .u8 0, .int .u8 0, .int .u8 0, .int .u8 0, .int .u8 0, .int .u8 0, .int .u8 0, .int .u8 0, .int .u8 0, .int .u8 0, .int .u8 0, .int .u8 0, .int .u8 0, .int .u8 0, .int .u8 0, .int .u8 0, .int .u8 0, .int .u8 0, .int .u8 0, .int .u8 0, .int .u8 0, .int .i64 0, .slice none 0 0] run_empty_manifest ?_ | refine wpList_store_row rfl 45 _ _ rfl _ _ rfl rfl 45 _ HBRf.out infoMf rfl one_mf ?_)
           refine bodyPost_ret (results_row_tmp rfl _ _ b0 45 zMf (0, 0) _ rfl (setRow_same HBRf.out zMf) Tryz.underlying45 rfl infoMf) rfl ?_
           refine mpost_no HNO.out ?_
           rw [<- HB0.out]
           exact setRow_below HWf.out (Nat.le_refl _) _
       . have HNO := Lib.hid (progM_bad HPS.out (.inr (by rw [<- HM.out.1, HP.out]; intro e; injection e with e1 e2; exact h0 e2)))
         rw [errV_ne h0, show errnoV no = Value.iface 110 (.int .i64 no) from rfl]
         clear hbm
         go_upto_region 14 with fail
         clear x0 h0
         go_wp2_with (first | refine wpList_build_as rfl 45 _ rfl #[.int .u8 0, .int .u8 0, .int .u8 0, .int .u8 0, .int .u8 0, .int .u8 0, .int .u8 0, .int .u8 0, .int .u8 0, .int .u8 0, .int .u8 0, .int .u8 0, .int .u8 0, .int .u8 0, .int .u8 0, .int .u8 0, .int .u8 0, .int .u8 0, .int .u8 0, .int .u8 0, .int .u8 0, .int .u8 0, .int .u8 0, .int .u8 0, .int .u8 0, .int .u8 0, .int .u8 0, .int .u8 0, .int .u8 0, .int .u8 0, .int .u8 0, .int .u8 0, .int .i64 0, .slice none 0 0] run_empty_manifest ?_ | refine wpList_store_row rfl 45 _ _ rfl _ _ rfl rfl 45 _ HBRf.out infoMf rfl one_mf ?_)
         refine bodyPost_ret (results_row_tmp rfl _ _ b0 45 zMf (0, 0) _ rfl (setRow_same HBRf.out zMf) Tryz.underlying45 rfl infoMf) rfl ?_
         refine mpost_no HNO.out ?_
         rw [<- HB0.out]
         exact setRow_below HWf.out (Nat.le_refl _) _
end Js.Cf
end Go.Proofs.YtjohdaobhonioaaGreatDoor
