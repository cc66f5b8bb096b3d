/-
  Parts of the proof: CfRm, CfLd.
-/
import Derived.Test.YtjohdaobhonioaaGreatDoorPkFo27
import Derived.Test.YtjohdaobhonioaaGreatDoorPkFo13
namespace Go.Proofs.YtjohdaobhonioaaGreatDoor
open Go.RowKit
namespace Js.Cf
theorem wp_build_as {P : Program} {o : Oper} {a : Act} {w : World} {K : Act -> World -> Prop} {Q : Exit -> Act -> World -> Prop} (t : TypeId) (parts : Array (Nat × Operand)) (ho : o.op = .build t parts) (l : List (Nat × Value)) (hl : (parts.map fun (i, x) => (i, a.eval x)).toList = l) (cs : Array Value)
  (hf : P.built t l = some cs) (h : K (a.put o.dst (.agg cs)) w) : o.wp P a w K Q :=
 wp_build t parts ho (by rw [hl, hf]; rfl) (by rw [hl, hf]; exact h)
theorem built_piece0 (a0 a1 a2 a3 a4 a5 a6 a7 a8 a9 a10 a11 a12 a13 a14 a15 a16 a17 a18 a19 a20 a21 a22 a23 a24 a25 a26 a27 a28 a29 a30 a31 : UInt8) (z : Int) : Tryz.prog.built 42 [(0, .agg (Lib.byteCells [a0, a1, a2, a3, a4, a5, a6, a7, a8, a9, a10, a11, a12, a13, a14, a15, a16, a17, a18, a19, a20, a21, a22, a23, a24, a25, a26, a27, a28, a29, a30, a31]).toArray), (1, .int .i64 z)] = some (Lib.byteCells [a0, a1, a2, a3, a4, a5, a6, a7, a8, a9, a10, a11, a12, a13, a14, a15, a16, a17, a18, a19, a20, a21, a22, a23, a24, a25, a26, a27, a28, a29, a30, a31] ++ [Value.int .i64 z]).toArray := by kernel_rfl
theorem built_piece (d : B) (hd : d.length = 32) (z : Int) : Tryz.prog.built 42 [(0, .agg (Lib.byteCells d).toArray), (1, .int .i64 z)] = some (Lib.byteCells d ++ [Value.int .i64 z]).toArray := by
 match d, hd with
 | [a0, a1, a2, a3, a4, a5, a6, a7, a8, a9, a10, a11, a12, a13, a14, a15, a16, a17, a18, a19, a20, a21, a22, a23, a24, a25, a26, a27, a28, a29, a30, a31], _ => exact built_piece0 a0 a1 a2 a3 a4 a5 a6 a7 a8 a9 a10 a11 a12 a13 a14 a15 a16 a17 a18 a19 a20 a21 a22 a23 a24 a25 a26 a27 a28 a29 a30 a31 z
theorem size_piece (d : B) (hd : d.length = 32) (z : Int) : (Lib.byteCells d ++ [Value.int .i64 z]).toArray.size = 33 := by simp [bytes_len, hd]
theorem one_piece (d : B) (z : Int) : (Lib.byteCells d ++ [Value.int .i64 z]).toArray.all (·.oneCell') = true := by
 simp [Lib.byteCells, Value.oneCell']
def boxE (v : V) (e0 : Value) : Value := if badP v = true then errnoV 4 else e0
theorem ends_is (v : V) : parseEnds (⟨(atJ v kDig).1.text.toArray⟩ : ByteArray).data.toList = .tuple #[.agg (Lib.byteCells (readP v).dig).toArray, if badP v = true then errnoV 4 else .nilIface] := by
 unfold parseEnds readP badP
 rw [show (⟨(atJ v kDig).1.text.toArray⟩ : ByteArray).data.toList = (atJ v kDig).1.text from rfl]
 cases Plain.digParse (atJ v kDig).1.text <;> rfl
set_option maxHeartbeats 16000000 in
set_option maxRecDepth 100000 in
theorem read_any (v : V) (iv kv : Value) (S : Nat -> Prop) (bo : Nat) (e0 : Value) (w : World) (hbo : Blk w bo 32 #[e0]) (htv : TV encJ w S v.1 v.2 (jcells v.1 iv kv)) (hS : ∀ b, S b -> b < w.heap.size) (hSo : ¬ S bo) (hg : Gd v) :
  Calls Tryz.prog 51 #[.agg #[.int .i64 v.1.kind, .int .i64 v.1.num, .string ⟨v.1.text.toArray⟩, iv, kv], .pointer (some ⟨bo, 0, none⟩)] w fun x w' =>
    x = .returned (.agg (pcV (readP v)).toArray) /\ Kp w.heap.size (fun b => b = bo) w w' /\ Blk w' bo 32 #[boxE v e0] := by
 obtain ⟨b0, hb0⟩ : ∃ b0, b0 = w.heap.size := ⟨_, rfl⟩
 obtain ⟨wc, hwc⟩ : ∃ wc, wc = (w.alloc (.cells #[.int .i64 v.1.kind, .int .i64 v.1.num, .string ⟨v.1.text.toArray⟩, iv, kv] 54)).alloc (.cells #[.int .u8 0, .int .u8 0, .int .u8 0, .int .u8 0, .int .u8 0, .int .u8 0, .int .u8 0, .int .u8 0, .int .u8 0, .int .u8 0, .int .u8 0, .int .u8 0, .int .u8 0, .int .u8 0, .int .u8 0, .int .u8 0, .int .u8 0, .int .u8 0, .int .u8 0, .int .u8 0, .int .u8 0, .int .u8 0, .int .u8 0, .int .u8 0, .int .u8 0, .int .u8 0, .int .u8 0, .int .u8 0, .int .u8 0, .int .u8 0, .int .u8 0, .int .u8 0, .int .i64 0] 42) := ⟨_, rfl⟩
 have HP0 : Hid (Blk wc b0 54 #[.int .i64 v.1.kind, .int .i64 v.1.num, .string ⟨v.1.text.toArray⟩, iv, kv]) := Lib.hid (by rw [hwc, hb0]; exact (Blk.new _ _ _).alloc _)
 have HR1 : Hid (Blk wc (b0 + 1) 42 #[.int .u8 0, .int .u8 0, .int .u8 0, .int .u8 0, .int .u8 0, .int .u8 0, .int .u8 0, .int .u8 0, .int .u8 0, .int .u8 0, .int .u8 0, .int .u8 0, .int .u8 0, .int .u8 0, .int .u8 0, .int .u8 0, .int .u8 0, .int .u8 0, .int .u8 0, .int .u8 0, .int .u8 0, .int .u8 0, .int .u8 0, .int .u8 0, .int .u8 0, .int .u8 0, .int .u8 0, .int .u8 0, .int .u8 0, .int .u8 0, .int .u8 0, .int .u8 0, .int .i64 0]) := Lib.hid (by
  have := Blk.new (w.alloc (.cells #[.int .i64 v.1.kind, .int .i64 v.1.num, .string ⟨v.1.text.toArray⟩, iv, kv] 54)) 42 #[.int .u8 0, .int .u8 0, .int .u8 0, .int .u8 0, .int .u8 0, .int .u8 0, .int .u8 0, .int .u8 0, .int .u8 0, .int .u8 0, .int .u8 0, .int .u8 0, .int .u8 0, .int .u8 0, .int .u8 0, .int .u8 0, .int .u8 0, .int .u8 0, .int .u8 0, .int .u8 0, .int .u8 0, .int .u8 0, .int .u8 0, .int .u8 0, .int .u8 0, .int .u8 0, .int .u8 0, .int .u8 0, .int .u8 0, .int .u8 0, .int .u8 0, .int .u8 0, .int .i64 0]
  rw [hwc, hb0]; simpa using this)
 have HBO : Hid (Blk wc bo 32 #[e0] /\ bo < b0) := Lib.hid ⟨by rw [hwc]; exact (hbo.alloc _).alloc _, by rw [hb0]; exact hbo.lt⟩
 have HW0 : Hid (Below b0 w wc /\ wc.heap.size = b0 + 2) := Lib.hid (by rw [hwc, hb0]; exact ⟨((Below.refl _ _).alloc (Nat.le_refl _) _).alloc (by simp) _, by simp⟩)
 have HB0 : Hid (b0 = w.heap.size) := Lib.hid hb0
 have HBL : Hid (bo < b0) := Lib.hid (by rw [hb0]; exact hbo.lt)
 have HAT : Hid (∀ wx, Kp b0 (fun b => b = bo) w wx -> ∀ key, Calls Tryz.prog 43 #[.agg #[.int .i64 v.1.kind, .int .i64 v.1.num, .string ⟨v.1.text.toArray⟩, iv, kv], .string ⟨key.toArray⟩] wx fun x w' =>
    ∃ jv jk, x = .returned (.agg #[.int .i64 (atJ v key).1.kind, .int .i64 (atJ v key).1.num, .string ⟨(atJ v key).1.text.toArray⟩, jv, jk]) /\ VT w' wx.heap.size (atJ v key) (jcells (atJ v key).1 jv jk).toArray /\ Below wx.heap.size wx w') := Lib.hid (fun wx hx key =>
  at_any v iv kv key S wx (htv.kept fun p hp => hx.cell (by rw [hb0]; exact hS _ hp) (fun e => hSo (by rw [<- e]; exact hp))) (fun b hb => by have := hS b hb; have := hx.size; omega) (by have := hg.sz; omega) (by have := hg.deep; omega))
 have x0 := HP0.out.cell 0
 have x1 := HP0.out.cell 1
 have x2 := HP0.out.cell 2
 have x3 := HP0.out.cell 3
 have x4 := HP0.out.cell 4
 clear htv hS hg hbo hSo
 go_enter Tryz.func51, Tryz.ntmps51
 go_upto_region 1 with fail
 rw [<- hwc, <- hb0]
 clear hwc hb0
 go_upto_region 2 with fail
 refine (HAT.out _ (Kp.of_below HW0.out.1) kDig).mono ?_
 rintro x w1 ⟨jv, jk, rfl, _, h2⟩
 have HW1 : Hid (Below b0 w w1 /\ Below wc.heap.size wc w1) := Lib.hid ⟨HW0.out.1.trans (h2.mono (by have := HW0.out; omega)), h2⟩
 have HE := Lib.hid (ends_is v)
 obtain ⟨u, hu⟩ : ∃ u, u = atJ v kDig := ⟨_, rfl⟩
 rw [<- hu] at HE ⊢
 clear h2 x0 x1 x2 x3 x4 hu
 have hf2 := run_json2
 go_upto_region 2 with fail
 refine (Parse_any _ _).mono ?_
 rintro x w2 ⟨rfl, h2⟩
 rw [HE.out]
 have HBO2 : Hid (Blk w2 bo 32 #[e0] /\ bo < b0) := Lib.hid ⟨(HBO.out.1.below HW1.out.2 (by have := HBO.out; have := HW0.out; omega)).below h2 (by have := HBO.out; have := HW0.out; have := HW1.out.2.size; omega), HBO.out.2⟩
 have HP2 : Hid (Blk w2 b0 54 #[.int .i64 v.1.kind, .int .i64 v.1.num, .string ⟨v.1.text.toArray⟩, iv, kv]) := Lib.hid ((HP0.out.below HW1.out.2 (by have := HW0.out; omega)).below h2 (by have := HW0.out; have := HW1.out.2.size; omega))
 have HR2 : Hid (Blk w2 (b0 + 1) 42 #[.int .u8 0, .int .u8 0, .int .u8 0, .int .u8 0, .int .u8 0, .int .u8 0, .int .u8 0, .int .u8 0, .int .u8 0, .int .u8 0, .int .u8 0, .int .u8 0, .int .u8 0, .int .u8 0, .int .u8 0, .int .u8 0, .int .u8 0, .int .u8 0, .int .u8 0, .int .u8 0, .int .u8 0, .int .u8 0, .int .u8 0, .int .u8 0, .int .u8 0, .int .u8 0, .int .u8 0, .int .u8 0, .int .u8 0, .int .u8 0, .int .u8 0, .int .u8 0, .int .i64 0]) := Lib.hid ((HR1.out.below HW1.out.2 (by have := HW0.out; omega)).below h2 (by have := HW0.out; have := HW1.out.2.size; omega))
 have HW2 : Hid (Below b0 w w2 /\ b0 + 2 ≤ w2.heap.size) := Lib.hid ⟨HW1.out.1.trans (h2.mono (by have := HW0.out; have := HW1.out.2.size; omega)), by have := HW0.out; have := HW1.out.2.size; have := h2.size; omega⟩
 obtain ⟨d, hd⟩ : ∃ d, d = (readP v).dig := ⟨_, rfl⟩
 obtain ⟨bd, hbd⟩ : ∃ bd, bd = badP v := ⟨_, rfl⟩
 have HD : Hid (d = (readP v).dig /\ bd = badP v /\ d.length = 32) := Lib.hid ⟨hd, hbd, by rw [hd]; exact readP_len v⟩
 rw [<- hd, <- hbd]
 have hif : (Tryz.prog.info? 40).map (·.size) = some (Lib.byteCells d).length := by rw [bytes_len, HD.out.2.2]; kernel_rfl
 have hone : (Lib.byteCells d).toArray.all (·.oneCell') = true := one_byteCells d
 have hsz32 : (Lib.byteCells d).length = 32 := by rw [bytes_len]; exact HD.out.2.2
 clear h2 hd hbd HR1 HP0 HBO HW1 hf2
 go_upto_region 2 with (refine wpList_store_row rfl 40 _ _ rfl _ _ rfl rfl 40 _ (heap_alloc_new _ _) (by simpa using hif) (by simp [hsz32]) hone ?_)
 rw [alloc_setRow]
 obtain ⟨bn, hbn⟩ : ∃ bn, bn = w2.heap.size := ⟨_, rfl⟩
 obtain ⟨w3, hw3⟩ : ∃ w3, w3 = w2.alloc (.cells (Lib.byteCells d).toArray 40) := ⟨_, rfl⟩
 have HD3 : Hid (Blk w3 bn 40 (Lib.byteCells d).toArray) := Lib.hid (by rw [hw3, hbn]; exact Blk.new _ _ _)
 have HBO3 : Hid (Blk w3 bo 32 #[e0] /\ bo < b0) := Lib.hid ⟨by rw [hw3]; exact HBO2.out.1.alloc _, HBO2.out.2⟩
 have HP3 : Hid (Blk w3 b0 54 #[.int .i64 v.1.kind, .int .i64 v.1.num, .string ⟨v.1.text.toArray⟩, iv, kv]) := Lib.hid (by rw [hw3]; exact HP2.out.alloc _)
 have HR3 : Hid (Blk w3 (b0 + 1) 42 #[.int .u8 0, .int .u8 0, .int .u8 0, .int .u8 0, .int .u8 0, .int .u8 0, .int .u8 0, .int .u8 0, .int .u8 0, .int .u8 0, .int .u8 0, .int .u8 0, .int .u8 0, .int .u8 0, .int .u8 0, .int .u8 0, .int .u8 0, .int .u8 0, .int .u8 0, .int .u8 0, .int .u8 0, .int .u8 0, .int .u8 0, .int .u8 0, .int .u8 0, .int .u8 0, .int .u8 0, .int .u8 0, .int .u8 0, .int .u8 0, .int .u8 0, .int .u8 0, .int .i64 0]) := Lib.hid (by rw [hw3]; exact HR2.out.alloc _)
 have HW3 : Hid (Below b0 w w3 /\ bn + 1 ≤ w3.heap.size /\ b0 + 2 ≤ bn) := Lib.hid (by rw [hw3, hbn]; exact ⟨HW2.out.1.alloc (by have := HW2.out; omega) _, by simp, HW2.out.2⟩)
 have HBN : Hid (b0 + 2 ≤ bn) := Lib.hid HW3.out.2.2
 rw [<- hw3, <- hbn]
 clear hw3 hbn HBO2 HP2 HR2 HW2
 cases bd with
 | false =>
  simp only [Bool.false_eq_true, if_false]
  go_upto_region 4 with fail
  obtain ⟨wb, hwb⟩ : ∃ wb, wb = w3 := ⟨_, rfl⟩
  have HBO4 : Hid (Blk wb bo 32 #[e0]) := Lib.hid (by rw [hwb]; exact HBO3.out.1)
  have HPb : Hid (Blk wb b0 54 #[.int .i64 v.1.kind, .int .i64 v.1.num, .string ⟨v.1.text.toArray⟩, iv, kv]) := Lib.hid (by rw [hwb]; exact HP3.out)
  have HRb : Hid (Blk wb (b0 + 1) 42 #[.int .u8 0, .int .u8 0, .int .u8 0, .int .u8 0, .int .u8 0, .int .u8 0, .int .u8 0, .int .u8 0, .int .u8 0, .int .u8 0, .int .u8 0, .int .u8 0, .int .u8 0, .int .u8 0, .int .u8 0, .int .u8 0, .int .u8 0, .int .u8 0, .int .u8 0, .int .u8 0, .int .u8 0, .int .u8 0, .int .u8 0, .int .u8 0, .int .u8 0, .int .u8 0, .int .u8 0, .int .u8 0, .int .u8 0, .int .u8 0, .int .u8 0, .int .u8 0, .int .i64 0]) := Lib.hid (by rw [hwb]; exact HR3.out)
  have HDb : Hid (Blk wb bn 40 (Lib.byteCells d).toArray) := Lib.hid (by rw [hwb]; exact HD3.out)
  have HKb : Hid (Kp b0 (fun b => b = bo) w wb /\ bn + 1 ≤ wb.heap.size) := Lib.hid (by rw [hwb]; exact ⟨Kp.of_below HW3.out.1, HW3.out.2.1⟩)
  rw [<- hwb]
  clear hwb HP3 HR3 HD3 HBO3 HW3 hone hif
  have hrd : ∀ wy, Blk wy bn 40 (Lib.byteCells d).toArray -> wy.rangeAt bn 0 (Lib.byteCells d) := fun wy h jj v hv => by rw [Nat.zero_add, h.cell]; simpa using hv
  have hrj : ∀ wy, Blk wy b0 54 #[.int .i64 v.1.kind, .int .i64 v.1.num, .string ⟨v.1.text.toArray⟩, iv, kv] -> wy.rangeAt b0 0 (#[.int .i64 v.1.kind, .int .i64 v.1.num, .string ⟨v.1.text.toArray⟩, iv, kv] : Array Value).toList := fun wy h jj v hv => by rw [Nat.zero_add, h.cell]; simpa using hv
  refine wp_region_R (S := (fun wy => wy.rangeAt bn 0 (Lib.byteCells d) /\ wy.rangeAt b0 0 (#[.int .i64 v.1.kind, .int .i64 v.1.num, .string ⟨v.1.text.toArray⟩, iv, kv] : Array Value).toList)) 5 (by kernel_rfl) ⟨hrd _ HDb.out, hrj _ HPb.out⟩ (fun hHeld => ?_)
  refine wpAnyR_take (i := 0) (by kernel_rfl) (by simp only [List.getElem?_toArray, List.getElem?_cons_zero]; rfl) (by kernel_rfl) (by kernel_rfl) (by kernel_rfl) (by exact fun _ _ _ h => h) (yieldsIf_load_mid (by rfl) _ _ rfl _ _ rfl (Lib.byteCells d) _ (fun _ h => h.1) Tryz.underlying40 rfl (by rw [bytes_len, HD.out.2.2]; kernel_rfl)) hHeld ?_
  try simp only [Act.put, List.setIfInBounds_toArray, List.set_cons_zero, List.set_cons_succ]
  refine wpAnyR_take (i := 1) (by kernel_rfl) (by simp only [List.getElem?_toArray, List.getElem?_cons_succ, List.getElem?_cons_zero]; rfl) (by kernel_rfl) (by kernel_rfl) (by kernel_rfl) (by exact fun _ _ _ h => h) (yieldsIf_load_mid (by rfl) _ _ rfl _ _ rfl (#[.int .i64 v.1.kind, .int .i64 v.1.num, .string ⟨v.1.text.toArray⟩, iv, kv] : Array Value).toList _ (fun _ h => h.2) Tryz.underlying54 rfl (by kernel_rfl)) hHeld ?_
  try simp only [Act.put, List.setIfInBounds_toArray, List.set_cons_zero, List.set_cons_succ]
  refine oneR 2 (fun K hK => ?_)
  rw [if_pos (by rfl)]
  go_simp
  refine (HAT.out _ (by exact HKb.out.1.drewN _) kSize).mono ?_
  rintro x w4 ⟨jv4, jk4, rfl, _, h4⟩
  have h4 : Below wb.heap.size wb w4 := ((Below.refl wb.heap.size wb).drew).trans h4
  have HBO5 : Hid (Blk w4 bo 32 #[e0]) := Lib.hid (HBO4.out.below h4 HBO4.out.lt)
  have HPc := Lib.hid (HPb.out.below h4 HPb.out.lt)
  have HRc := Lib.hid (HRb.out.below h4 HRb.out.lt)
  have HDc := Lib.hid (HDb.out.below h4 HDb.out.lt)
  have HKc : Hid (Kp b0 (fun b => b = bo) w w4) := Lib.hid (HKb.out.1.step h4 (by have := HKb.out.2; have := HBN.out; omega))
  obtain ⟨zn, hzn⟩ : ∃ zn, zn = (atJ v kSize).1.num := ⟨_, rfl⟩
  have HZN := Lib.hid hzn
  refine hK.out _ _ (fun _ => ⟨hrd _ HDc.out, hrj _ HPc.out⟩) (fun _ => ?_)
  rw [<- hzn]
  generalize (atJ v kSize).1.kind = k4
  generalize (atJ v kSize).1.text = t4
  clear hK h4 hzn HBO4 HPb HRb HDb HKb hHeld
  try simp only [Act.put, List.setIfInBounds_toArray, List.set_cons_zero, List.set_cons_succ]
  have hf1 := run_json1
  refine tkR 3 (hS := ⟨hrd _ HDc.out, hrj _ HPc.out⟩) (h := ?_)
  clear hf1
  try simp only [Act.put, List.setIfInBounds_toArray, List.set_cons_zero, List.set_cons_succ]
  refine oneR 4 (fun K hK => ?_)
  rw [if_pos (by rfl)]
  refine wp_build_as 42 _ rfl [(0, .agg (Lib.byteCells d).toArray), (1, .int .i64 zn)] (by simp only [List.map_toArray, List.map_cons, List.map_nil]; rfl) _ (built_piece d HD.out.2.2 zn) ?_
  refine hK.out _ _ (fun _ => ⟨hrd _ HDc.out, hrj _ HPc.out⟩) (fun _ => ?_)
  clear hK
  try simp only [Act.put, List.setIfInBounds_toArray, List.set_cons_zero, List.set_cons_succ]
  refine oneR 5 (fun K hK => ?_)
  rw [if_pos (by rfl)]
  refine wp_store_row 42 _ _ rfl (b0 + 1) (Lib.byteCells d ++ [Value.int .i64 zn]).toArray rfl rfl 42 _ HRc.out (by rw [size_piece d HD.out.2.2 zn]; kernel_rfl) (by exact (size_piece d HD.out.2.2 zn).symm) (one_piece d zn) ?_
  refine hK.out _ _ (fun h => absurd rfl h) (fun _ => ?_)
  clear hK
  try simp only [Act.put]
  refine wpAnyR_done (by kernel_rfl) ?_ _
  go_wp2_with fail
  have hi33 : (Tryz.prog.info? 42).map (·.size) = some (Lib.byteCells d ++ [Value.int .i64 zn]).toArray.size := by rw [size_piece d HD.out.2.2 zn]; kernel_rfl
  refine bodyPost_ret (results_cell_row rfl _ _ (b0 + 1) 42 _ (0, 0) _ rfl (setRow_same HRc.out _) Tryz.underlying42 rfl hi33) rfl ⟨?_, ?_, ?_⟩
  . rw [HD.out.1, HZN.out]; rfl
  . rw [<- HB0.out]
    exact HKc.out.trans (Kp.of_below (setRow_below (Below.refl _ _) (by omega) _))
  . rw [show boxE v e0 = e0 from by unfold boxE; rw [<- HD.out.2.1]; rfl]
    exact (setRow_other w4 (b0 + 1) bo _ (by have := HBL.out; omega)).trans HBO5.out
 | true =>
  simp only [if_true]
  rw [show errnoV 4 = Value.iface 110 (.int .i64 4) from rfl]
  have z0 := HBO3.out.1.cell 0
  have z1 := HBO3.out.1.frozen 0
  go_upto_region 4 with fail
  clear z0 z1
  obtain ⟨wb, hwb⟩ : ∃ wb, wb = w3.setCell ⟨bo, 0, none⟩ (.iface 110 (.int .i64 4)) := ⟨_, rfl⟩
  have HBO4 : Hid (Blk wb bo 32 #[.iface 110 (.int .i64 4)]) := Lib.hid (by rw [hwb]; exact HBO3.out.1.set_ 0 _)
  have HPb : Hid (Blk wb b0 54 #[.int .i64 v.1.kind, .int .i64 v.1.num, .string ⟨v.1.text.toArray⟩, iv, kv]) := Lib.hid (by rw [hwb]; exact HP3.out.far (by show b0 ≠ bo; have := HBO3.out; omega) _)
  have HRb : Hid (Blk wb (b0 + 1) 42 #[.int .u8 0, .int .u8 0, .int .u8 0, .int .u8 0, .int .u8 0, .int .u8 0, .int .u8 0, .int .u8 0, .int .u8 0, .int .u8 0, .int .u8 0, .int .u8 0, .int .u8 0, .int .u8 0, .int .u8 0, .int .u8 0, .int .u8 0, .int .u8 0, .int .u8 0, .int .u8 0, .int .u8 0, .int .u8 0, .int .u8 0, .int .u8 0, .int .u8 0, .int .u8 0, .int .u8 0, .int .u8 0, .int .u8 0, .int .u8 0, .int .u8 0, .int .u8 0, .int .i64 0]) := Lib.hid (by rw [hwb]; exact HR3.out.far (by show b0 + 1 ≠ bo; have := HBO3.out; omega) _)
  have HDb : Hid (Blk wb bn 40 (Lib.byteCells d).toArray) := Lib.hid (by rw [hwb]; exact HD3.out.far (by show bn ≠ bo; have := HBO3.out; have := HW3.out; omega) _)
  have HKb : Hid (Kp b0 (fun b => b = bo) w wb /\ bn + 1 ≤ wb.heap.size) := Lib.hid (by rw [hwb]; exact ⟨Kp.setCell (X := fun b => b = bo) (p := ⟨bo, 0, none⟩) (Kp.of_below HW3.out.1) (.inr rfl) _, by simp; exact HW3.out.2.1⟩)
  rw [<- hwb]
  clear hwb HP3 HR3 HD3 HBO3 HW3 hone hif
  have hrd : ∀ wy, Blk wy bn 40 (Lib.byteCells d).toArray -> wy.rangeAt bn 0 (Lib.byteCells d) := fun wy h jj v hv => by rw [Nat.zero_add, h.cell]; simpa using hv
  have hrj : ∀ wy, Blk wy b0 54 #[.int .i64 v.1.kind, .int .i64 v.1.num, .string ⟨v.1.text.toArray⟩, iv, kv] -> wy.rangeAt b0 0 (#[.int .i64 v.1.kind, .int .i64 v.1.num, .string ⟨v.1.text.toArray⟩, iv, kv] : Array Value).toList := fun wy h jj v hv => by rw [Nat.zero_add, h.cell]; simpa using hv
  refine wp_region_R (S := (fun wy => wy.rangeAt bn 0 (Lib.byteCells d) /\ wy.rangeAt b0 0 (#[.int .i64 v.1.kind, .int .i64 v.1.num, .string ⟨v.1.text.toArray⟩, iv, kv] : Array Value).toList)) 5 (by kernel_rfl) ⟨hrd _ HDb.out, hrj _ HPb.out⟩ (fun hHeld => ?_)
  refine wpAnyR_take (i := 0) (by kernel_rfl) (by simp only [List.getElem?_toArray, List.getElem?_cons_zero]; rfl) (by kernel_rfl) (by kernel_rfl) (by kernel_rfl) (by exact fun _ _ _ h => h) (yieldsIf_load_mid (by rfl) _ _ rfl _ _ rfl (Lib.byteCells d) _ (fun _ h => h.1) Tryz.underlying40 rfl (by rw [bytes_len, HD.out.2.2]; kernel_rfl)) hHeld ?_
  try simp only [Act.put, List.setIfInBounds_toArray, List.set_cons_zero, List.set_cons_succ]
  refine wpAnyR_take (i := 1) (by kernel_rfl) (by simp only [List.getElem?_toArray, List.getElem?_cons_succ, List.getElem?_cons_zero]; rfl) (by kernel_rfl) (by kernel_rfl) (by kernel_rfl) (by exact fun _ _ _ h => h) (yieldsIf_load_mid (by rfl) _ _ rfl _ _ rfl (#[.int .i64 v.1.kind, .int .i64 v.1.num, .string ⟨v.1.text.toArray⟩, iv, kv] : Array Value).toList _ (fun _ h => h.2) Tryz.underlying54 rfl (by kernel_rfl)) hHeld ?_
  try simp only [Act.put, List.setIfInBounds_toArray, List.set_cons_zero, List.set_cons_succ]
  refine oneR 2 (fun K hK => ?_)
  rw [if_pos (by rfl)]
  go_simp
  refine (HAT.out _ (by exact HKb.out.1.drewN _) kSize).mono ?_
  rintro x w4 ⟨jv4, jk4, rfl, _, h4⟩
  have h4 : Below wb.heap.size wb w4 := ((Below.refl wb.heap.size wb).drew).trans h4
  have HBO5 : Hid (Blk w4 bo 32 #[.iface 110 (.int .i64 4)]) := Lib.hid (HBO4.out.below h4 HBO4.out.lt)
  have HPc := Lib.hid (HPb.out.below h4 HPb.out.lt)
  have HRc := Lib.hid (HRb.out.below h4 HRb.out.lt)
  have HDc := Lib.hid (HDb.out.below h4 HDb.out.lt)
  have HKc : Hid (Kp b0 (fun b => b = bo) w w4) := Lib.hid (HKb.out.1.step h4 (by have := HKb.out.2; have := HBN.out; omega))
  obtain ⟨zn, hzn⟩ : ∃ zn, zn = (atJ v kSize).1.num := ⟨_, rfl⟩
  have HZN := Lib.hid hzn
  refine hK.out _ _ (fun _ => ⟨hrd _ HDc.out, hrj _ HPc.out⟩) (fun _ => ?_)
  rw [<- hzn]
  generalize (atJ v kSize).1.kind = k4
  generalize (atJ v kSize).1.text = t4
  clear hK h4 hzn HBO4 HPb HRb HDb HKb hHeld
  try simp only [Act.put, List.setIfInBounds_toArray, List.set_cons_zero, List.set_cons_succ]
  have hf1 := run_json1
  refine tkR 3 (hS := ⟨hrd _ HDc.out, hrj _ HPc.out⟩) (h := ?_)
  clear hf1
  try simp only [Act.put, List.setIfInBounds_toArray, List.set_cons_zero, List.set_cons_succ]
  refine oneR 4 (fun K hK => ?_)
  rw [if_pos (by rfl)]
  refine wp_build_as 42 _ rfl [(0, .agg (Lib.byteCells d).toArray), (1, .int .i64 zn)] (by simp only [List.map_toArray, List.map_cons, List.map_nil]; rfl) _ (built_piece d HD.out.2.2 zn) ?_
  refine hK.out _ _ (fun _ => ⟨hrd _ HDc.out, hrj _ HPc.out⟩) (fun _ => ?_)
  clear hK
  try simp only [Act.put, List.setIfInBounds_toArray, List.set_cons_zero, List.set_cons_succ]
  refine oneR 5 (fun K hK => ?_)
  rw [if_pos (by rfl)]
  refine wp_store_row 42 _ _ rfl (b0 + 1) (Lib.byteCells d ++ [Value.int .i64 zn]).toArray rfl rfl 42 _ HRc.out (by rw [size_piece d HD.out.2.2 zn]; kernel_rfl) (by exact (size_piece d HD.out.2.2 zn).symm) (one_piece d zn) ?_
  refine hK.out _ _ (fun h => absurd rfl h) (fun _ => ?_)
  clear hK
  try simp only [Act.put]
  refine wpAnyR_done (by kernel_rfl) ?_ _
  go_wp2_with fail
  have hi33 : (Tryz.prog.info? 42).map (·.size) = some (Lib.byteCells d ++ [Value.int .i64 zn]).toArray.size := by rw [size_piece d HD.out.2.2 zn]; kernel_rfl
  refine bodyPost_ret (results_cell_row rfl _ _ (b0 + 1) 42 _ (0, 0) _ rfl (setRow_same HRc.out _) Tryz.underlying42 rfl hi33) rfl ⟨?_, ?_, ?_⟩
  . rw [HD.out.1, HZN.out]; rfl
  . rw [<- HB0.out]
    exact HKc.out.trans (Kp.of_below (setRow_below (Below.refl _ _) (by omega) _))
  . rw [show boxE v e0 = .iface 110 (.int .i64 4) from by unfold boxE; rw [<- HD.out.2.1]; rfl]
    exact (setRow_other w4 (b0 + 1) bo _ (by have := HBL.out; omega)).trans HBO5.out
end Js.Cf
end Go.Proofs.YtjohdaobhonioaaGreatDoor
namespace Go.Proofs.YtjohdaobhonioaaGreatDoor
open Go.RowKit
namespace Js.Cf
structure Rw where
 e : TypeId
 size : Nat
 v : Value
 n : Nat
 xs : List Value
def Lad (w : World) : Nat -> Nat -> List Rw -> Prop
 | B', U, [] => B' ≤ U
 | B', U, r :: l => ∃ M, w.ownsRow B' r.e r.size r.v r.n r.xs /\ (∀ b, r.v.ownBlock = some b -> b < M) /\ B' ≤ M /\ Lad w M U l
theorem Lad.le {w : World} : ∀ {l : List Rw} {B' U : Nat}, Lad w B' U l -> B' ≤ U
 | [], _, _, h => h
 | _ :: _, _, _, ⟨_, _, _, hM, h⟩ => Nat.le_trans hM (Lad.le h)
theorem Lad.up {w : World} {U U' : Nat} (hU : U ≤ U') : ∀ {l : List Rw} {B' : Nat}, Lad w B' U l -> Lad w B' U' l
 | [], _, h => Nat.le_trans h hU
 | _ :: _, _, ⟨M, h1, h2, h3, h⟩ => ⟨M, h1, h2, h3, Lad.up hU h⟩
theorem Lad.less {w : World} {U B' B0 : Nat} {l : List Rw} (h : Lad w B' U l) (hB : B0 ≤ B') : Lad w B0 U l := by
 cases l with
 | nil => exact Nat.le_trans hB h
 | cons r l =>
  obtain ⟨M, h1, h2, h3, h4⟩ := h
  exact ⟨M, Js.own_less h1 hB, h2, Nat.le_trans hB h3, h4⟩
theorem Lad.kept {w w' : World} {U : Nat} : ∀ {l : List Rw} {B' : Nat}, Lad w B' U l -> (∀ b, B' ≤ b -> b < U -> w'.heap[b]? = w.heap[b]?) -> Lad w' B' U l
 | [], _, h, _ => h
 | _ :: _, _, ⟨M, h1, h2, h3, h⟩, hk => ⟨M, own_at h1 (fun b hb => hk b (own_lt h1 hb).1 (Nat.lt_of_lt_of_le (h2 b hb) h.le)), h2, h3, h.kept fun b hb hu => hk b (Nat.le_trans h3 hb) hu⟩
theorem Lad.push {w : World} {U U' : Nat} {e : TypeId} {size n : Nat} {v : Value} {xs : List Value} (ho : w.ownsRow U e size v n xs) (hU : U ≤ U') (hw : w.heap.size ≤ U') : ∀ {l : List Rw} {B' : Nat}, Lad w B' U l -> Lad w B' U' (l ++ [⟨e, size, v, n, xs⟩])
 | [], _, h => ⟨U', Js.own_less ho h, fun _ hb => Nat.lt_of_lt_of_le (own_lt ho hb).2 hw, Nat.le_trans h hU, Nat.le_refl _⟩
 | _ :: _, _, ⟨M, h1, h2, h3, h⟩ => ⟨M, h1, h2, h3, Lad.push ho hU hw h⟩
theorem Lad.below {w w' : World} {B' : Nat} {l : List Rw} (h : Lad w B' w.heap.size l) (hb : Below w.heap.size w w') : Lad w' B' w'.heap.size l := (h.kept fun b _ hu => hb.block b hu).up hb.size
theorem Lad.step {w w' : World} {B' : Nat} {l : List Rw} {e : TypeId} {size n : Nat} {v : Value} {xs : List Value} (h : Lad w B' w.heap.size l) (hb : Below w.heap.size w w') (ho : w'.ownsRow w.heap.size e size v n xs) : Lad w' B' w'.heap.size (l ++ [⟨e, size, v, n, xs⟩]) :=
 (h.kept fun b _ hu => hb.block b hu).push ho hb.size (Nat.le_refl _)
theorem Lad.grew {w w' : World} {B' : Nat} {l : List Rw} {e : TypeId} {size n : Nat} {v : Value} {xs : List Value} (h : Lad w B' w.heap.size l) (hb : w.grownBy w' none) (ho : w'.ownsRow w.heap.size e size v n xs) : Lad w' B' w'.heap.size (l ++ [⟨e, size, v, n, xs⟩]) :=
 (h.kept fun b _ hu => hb.block b hu (fun e => by cases e)).push ho hb.size (Nat.le_refl _)
theorem Lad.set {w : World} {B' U : Nat} {l : List Rw} (h : Lad w B' U l) {p : Addr} (hp : p.block < B') (u : Value) : Lad (w.setCell p u) B' U l :=
 h.kept fun b hb _ => Below.heap_setCell w p u b (by omega)
theorem Lad.row {w : World} {B' U g : Nat} {l : List Rw} (h : Lad w B' U l) (hg : g < B') (cs : Array Value) : Lad (w.setRow g cs) B' U l :=
 h.kept fun b hb _ => setRow_other w g b cs (by omega)
theorem Lad.kp {w w' : World} {B' U C : Nat} {X : Nat -> Prop} {l : List Rw} (h : Lad w B' U l) (hk : Kp C X w w') (hC : U ≤ C) (hX : ∀ b, X b -> b < B') : Lad w' B' U l :=
 h.kept fun b hb hu => hk.block b (by omega) (fun hx => by have := hX b hx; omega)
theorem Lad.mem {w : World} {U : Nat} : ∀ {l : List Rw} {B' : Nat}, Lad w B' U l -> ∀ r ∈ l, w.ownsRow B' r.e r.size r.v r.n r.xs /\ ∀ b, r.v.ownBlock = some b -> b < U
 | _ :: _, B', ⟨M, h1, h2, h3, h⟩, r, hr => by
  rcases List.mem_cons.1 hr with rfl | hr
  . exact ⟨h1, fun b hb => Nat.lt_of_lt_of_le (h2 b hb) h.le⟩
  . have := h.mem r hr
    exact ⟨Js.own_less this.1 h3, this.2⟩
theorem Lad.apart {w : World} {U : Nat} : ∀ {l : List Rw} {B' : Nat}, Lad w B' U l -> l.Pairwise fun r q => ∀ b, r.v.ownBlock = some b -> q.v.ownBlock ≠ some b
 | [], _, _ => List.Pairwise.nil
 | _ :: _, _, ⟨M, h1, h2, h3, h⟩ => List.Pairwise.cons (fun q hq b hb hb' => by
  have e1 := h2 b hb
  have e2 := (own_lt (h.mem q hq).1 hb').1
  omega) h.apart
def ImgO (w : World) (B' : Nat) (i : Img) (cs : Array Value) : Prop :=
 ∃ A1 c1 A2 c2 A3 c3 A4 c4 A5 c5 A6 c6 A7 c7, cs = #[.slice A1 i.cfg.env.length c1, .string ⟨i.cfg.dir.toArray⟩, .string ⟨i.cfg.user.toArray⟩, .slice A2 i.cfg.ports.length c2, .slice A3 i.cfg.labels.length c3,
   .slice A4 i.cfg.cmd.length c4, .slice A5 i.cfg.entry.length c5, .slice A6 i.past.length c6, .slice A7 i.diffs.length c7] /\
  Lad w B' w.heap.size [⟨9, 1, .slice A4 i.cfg.cmd.length c4, i.cfg.cmd.length, tx i.cfg.cmd⟩, ⟨9, 1, .slice A5 i.cfg.entry.length c5, i.cfg.entry.length, tx i.cfg.entry⟩,
   ⟨99, 2, .slice A1 i.cfg.env.length c1, i.cfg.env.length, px i.cfg.env⟩, ⟨9, 1, .slice A2 i.cfg.ports.length c2, i.cfg.ports.length, tx i.cfg.ports⟩,
   ⟨99, 2, .slice A3 i.cfg.labels.length c3, i.cfg.labels.length, px i.cfg.labels⟩, ⟨101, 2, .slice A6 i.past.length c6, i.past.length, pastC i.past⟩,
   ⟨40, 32, .slice A7 i.diffs.length c7, i.diffs.length, digC i.diffs⟩] /\ ∀ d ∈ i.diffs, d.length = 32
theorem ImgO.reads {w : World} {B' : Nat} {i : Img} {cs : Array Value} (h : ImgO w B' i cs) : ImgR w w.heap.size i cs := by
 obtain ⟨A1, c1, A2, c2, A3, c3, A4, c4, A5, c5, A6, c6, A7, c7, e, hl, hd⟩ := h
 have hm := hl.mem
 simp only [List.mem_cons, List.not_mem_nil, or_false, forall_eq_or_imp, forall_eq] at hm
 obtain ⟨h4, h5, h1, h2, h3, h6, h7⟩ := hm
 exact ⟨A1, c1, A2, c2, A3, c3, A4, c4, A5, c5, A6, c6, A7, c7, e, Reads.of_own h1.1, Reads.of_own h2.1, Reads.of_own h3.1, Reads.of_own h4.1, Reads.of_own h5.1, Reads.of_own h6.1, Reads.of_own h7.1, hd⟩
theorem ImgO.below {w w' : World} {B' : Nat} {i : Img} {cs : Array Value} (h : ImgO w B' i cs) (hb : Below w.heap.size w w') : ImgO w' B' i cs := by
 obtain ⟨A1, c1, A2, c2, A3, c3, A4, c4, A5, c5, A6, c6, A7, c7, e, hl, hd⟩ := h
 exact ⟨A1, c1, A2, c2, A3, c3, A4, c4, A5, c5, A6, c6, A7, c7, e, hl.below hb, hd⟩
end Js.Cf
end Go.Proofs.YtjohdaobhonioaaGreatDoor
