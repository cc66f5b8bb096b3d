/-
  Parts of the proof: CfRi.
-/
import Derived.Test.YtjohdaobhonioaaGreatDoorPkFo32
import Derived.Test.YtjohdaobhonioaaGreatDoorPkFo35
import Derived.Test.YtjohdaobhonioaaGreatDoorPkFo36
import Derived.Test.YtjohdaobhonioaaGreatDoorPkFo37
namespace Go.Proofs.YtjohdaobhonioaaGreatDoor
open Go.RowKit
namespace Js.Cf
def zIm : Array Value := #[.slice none 0 0, .string ⟨#[]⟩, .string ⟨#[]⟩, .slice none 0 0, .slice none 0 0, .slice none 0 0, .slice none 0 0, .slice none 0 0, .slice none 0 0]
def IPost (s : B) (w : World) (x : Ending) (w' : World) : Prop := Below w.heap.size w w' /\ match progI s with
 | some i => ∃ cs, x = .returned (.tuple #[.agg cs, .nilIface]) /\ ImgO w' w.heap.size i cs /\ Few i
 | none => x = .returned (.tuple #[.agg zIm, errnoV 4])
theorem ipost_no {s : B} {w w' : World} (h : progI s = none) (hb : Below w.heap.size w w') : IPost s w (.returned (.tuple #[.agg zIm, errnoV 4])) w' := by
 unfold IPost; rw [h]; exact ⟨hb, rfl⟩
theorem run_empty_image : Tryz.prog.built 29 [] = some zIm := by kernel_rfl
theorem infoIm : (Tryz.prog.info? 29).map (·.size) = some zIm.size := by kernel_rfl
theorem one_im : zIm.all (·.oneCell') = true := by kernel_rfl
theorem infoPair : (Tryz.prog.info? 99).map (fun i => (i.zero, i.size, i.bytes)) = some (some (.agg #[.string .empty, .string .empty]), 2, 32) := by kernel_rfl
theorem texts_vt {w : World} {B' : Nat} {u : V} {jv jk : Value} (hv : VT w B' u (jcells u.1 jv jk).toArray) (hg : Gd u) :
  Calls Tryz.prog 44 #[.agg #[.int .i64 u.1.kind, .int .i64 u.1.num, .string ⟨u.1.text.toArray⟩, jv, jk]] w fun x w' => ∃ rv, x = .returned rv /\ w'.ownsRow w.heap.size 9 1 rv (textsJ u).length (tx (textsJ u)) /\ Below w.heap.size w w' := by
 obtain ⟨iv2, kv2, S, e, htv, hS⟩ := hv
 have e2 : jv = iv2 /\ jk = kv2 := by simpa [jcells] using e
 obtain ⟨rfl, rfl⟩ := e2
 exact texts_any u jv jk S w htv (fun b hb => (hS b hb).2) (by have := hg.len; omega)
theorem keys_vt {w : World} {B' : Nat} {u : V} {jv jk : Value} (hv : VT w B' u (jcells u.1 jv jk).toArray) :
  ∃ A c, jk = .slice A u.1.keys.length c /\ RdS w (fun b => B' ≤ b /\ b < w.heap.size) 1 A u.1.keys.length (tx u.1.keys) := by
 obtain ⟨iv2, kv2, S, e, htv, hS⟩ := hv
 have e2 : jv = iv2 /\ jk = kv2 := by simpa [jcells] using e
 obtain ⟨rfl, rfl⟩ := e2
 obtain ⟨A1, c1, A2, c2, us, ecs, _, _, _, _, hr2⟩ := htv
 have eiv : jv = .slice A1 u.2.len c1 /\ jk = .slice A2 u.1.keys.length c2 := by
  simp only [encJ, jcells, List.cons.injEq, and_true, true_and] at ecs
  exact ecs
 exact ⟨A2, c2, eiv.2, hr2.more hS⟩
theorem items_vt {w : World} {B' : Nat} {u : V} {jv jk : Value} (hv : VT w B' u (jcells u.1 jv jk).toArray) :
  ∃ A c us, ∃ S : Nat -> Prop, jv = .slice A u.2.len c /\ RdS w S 5 A u.2.len us /\ TR encJ w S u.2 us /\ ∀ b, S b -> B' ≤ b /\ b < w.heap.size := by
 obtain ⟨iv2, kv2, S, e, htv, hS⟩ := hv
 have e2 : jv = iv2 /\ jk = kv2 := by simpa [jcells] using e
 obtain ⟨rfl, rfl⟩ := e2
 obtain ⟨A1, c1, A2, c2, us, ecs, _, _, hr1, htr, _⟩ := htv
 have eiv : jv = .slice A1 u.2.len c1 /\ jk = .slice A2 u.1.keys.length c2 := by
  simp only [encJ, jcells, List.cons.injEq, and_true, true_and] at ecs
  exact ecs
 exact ⟨A1, c1, us, S, eiv.1, hr1, htr, hS⟩
theorem infoPast : (Tryz.prog.info? 101).map (fun i => (i.zero, i.size, i.bytes)) = some (some (.agg #[.string .empty, .bool false]), 2, 24) := by kernel_rfl
def zDg : Array Value := (Lib.byteCells Plain.z32).toArray
theorem infoDig : (Tryz.prog.info? 40).map (fun i => (i.zero, i.size, i.bytes)) = some (some (.agg zDg), 32, 32) := by kernel_rfl
theorem at_vt {w : World} {B' : Nat} {u : V} {jv jk : Value} (hv : VT w B' u (jcells u.1 jv jk).toArray) (hg : Gd u) (key : B) :
  Calls Tryz.prog 43 #[.agg #[.int .i64 u.1.kind, .int .i64 u.1.num, .string ⟨u.1.text.toArray⟩, jv, jk], .string ⟨key.toArray⟩] w fun x w' =>
   ∃ jv jk, x = .returned (.agg #[.int .i64 (atJ u key).1.kind, .int .i64 (atJ u key).1.num, .string ⟨(atJ u key).1.text.toArray⟩, jv, jk]) /\ VT w' w.heap.size (atJ u key) (jcells (atJ u key).1 jv jk).toArray /\ Below w.heap.size w w' := by
 obtain ⟨iv2, kv2, S, e, htv, hS⟩ := hv
 have e2 : jv = iv2 /\ jk = kv2 := by simpa [jcells] using e
 obtain ⟨rfl, rfl⟩ := e2
 exact at_any u jv jk key S w htv (fun b hb => (hS b hb).2) (by have := hg.sz; omega) (by have := hg.deep; omega)
theorem slice1_dig0 (a0 a1 a2 a3 a4 a5 a6 a7 a8 a9 a10 a11 a12 a13 a14 a15 a16 a17 a18 a19 a20 a21 a22 a23 a24 a25 a26 a27 a28 a29 a30 a31 : UInt8) (w : World) : (Instr.buildSlice 27 1 #[(0, .agg (Lib.byteCells [a0, a1, a2, a3, a4, a5, a6, a7, a8, a9, a10, a11, a12, a13, a14, a15, a16, a17, a18, a19, a20, a21, a22, a23, a24, a25, a26, a27, a28, a29, a30, a31]).toArray)]).run Tryz.prog w = .ok (.slice (some ⟨w.heap.size, 0, none⟩) 1 1) (w.alloc (.cells (Lib.byteCells [a0, a1, a2, a3, a4, a5, a6, a7, a8, a9, a10, a11, a12, a13, a14, a15, a16, a17, a18, a19, a20, a21, a22, a23, a24, a25, a26, a27, a28, a29, a30, a31]).toArray 40)) := by kernel_rfl
theorem slice1_dig (d : B) (hd : d.length = 32) (w : World) : (Instr.buildSlice 27 1 #[(0, .agg (Lib.byteCells d).toArray)]).run Tryz.prog w = .ok (.slice (some ⟨w.heap.size, 0, none⟩) 1 1) (w.alloc (.cells (Lib.byteCells d).toArray 40)) := by
 match d, hd with
 | [a0, a1, a2, a3, a4, a5, a6, a7, a8, a9, a10, a11, a12, a13, a14, a15, a16, a17, a18, a19, a20, a21, a22, a23, a24, a25, a26, a27, a28, a29, a30, a31], _ => exact slice1_dig0 a0 a1 a2 a3 a4 a5 a6 a7 a8 a9 a10 a11 a12 a13 a14 a15 a16 a17 a18 a19 a20 a21 a22 a23 a24 a25 a26 a27 a28 a29 a30 a31 w
theorem wpList_slice_dig {ops : Array Oper} {rest : List Oper} {o : Oper} {a : Act} {w : World} {Q : Exit -> Act -> World -> Prop} (hg : o.guard = none) (x : Operand) (ho : o.op = .buildSlice 27 1 #[(0, x)]) (cs : Array Value) (hr : ∀ w, (Instr.buildSlice 27 1 #[(0, .agg cs)]).run Tryz.prog w = .ok (.slice (some ⟨w.heap.size, 0, none⟩) 1 1) (w.alloc (.cells cs 40)))
  (hx : a.eval x = .agg cs) (h : wpList Tryz.prog ops Q rest (a.put o.dst (.slice (some ⟨w.heap.size, 0, none⟩) 1 1)) (w.alloc (.cells cs 40))) : wpList Tryz.prog ops Q (o :: rest) a w :=
 wpList_plain hg fun K hK => by
  unfold Oper.wp execOp
  simp only [ho, Sem.run_bind, Sem.run_pure, Result.andThen_ok, List.map_toArray, List.map_cons, List.map_nil, hx, hr]
  exact hK _ _ h
theorem digs_snoc : ∀ {l ds : List B} {t d : B}, digs l = some ds -> Plain.digParse t = some d -> digs (l ++ [t]) = some (ds ++ [d])
 | [], ds, t, d, h, hd => by
  injection h with h; subst h
  show digs [t] = _
  simp [digs, hd]
 | s :: r, ds, t, d, h, hd => by
  rw [digs] at h
  split at h
  . cases h
  . rename_i x hx
    split at h
    . cases h
    . rename_i l hl
      injection h with h
      subst h
      rw [List.cons_append, digs, hx, digs_snoc hl hd]; rfl
theorem digs_none : ∀ {l : List B} {t : B}, t ∈ l -> Plain.digParse t = none -> digs l = none
 | s :: r, t, h, hd => by
  rw [digs]
  rcases List.mem_cons.1 h with rfl | h
  . rw [hd]
  . cases Plain.digParse s with
    | none => rfl
    | some x => simp only [digs_none h hd]
theorem digC_snoc (l : List B) (d : B) : digC (l ++ [d]) = digC l ++ Lib.byteCells d := by simp [digC]
theorem pastC_snoc (l : List (B × Bool)) (p : B × Bool) : pastC (l ++ [p]) = pastC l ++ [.string ⟨p.1.toArray⟩, .bool p.2] := by simp [pastC]
theorem digParse_len {t d : B} (h : Plain.digParse t = some d) : d.length = 32 := by
 have := readP_len (tO [(kDig, tT t)])
 unfold readP at this
 rw [show (atJ (tO [(kDig, tT t)]) kDig).1.text = t from rfl, h] at this
 exact this
theorem ends_of (t : B) : parseEnds (⟨t.toArray⟩ : ByteArray).data.toList = .tuple #[.agg (Lib.byteCells ((Plain.digParse t).getD Plain.z32)).toArray, if (Plain.digParse t).isNone = true then errnoV 4 else .nilIface] :=
 ends_is (tO [(kDig, tT t)])
set_option maxHeartbeats 16000000 in
set_option maxRecDepth 100000 in
theorem parseImage_any (s : B) (w : World) (hst : St w) : Calls Tryz.prog 14 #[.string ⟨s.toArray⟩] w (IPost s w) := by
 have HST := Lib.hid hst
 clear hst
 obtain ⟨b0, hb0⟩ : ∃ b0, b0 = w.heap.size := ⟨_, rfl⟩
 obtain ⟨wa, hwa⟩ : ∃ wa, wa = w.alloc (.cells #[.slice none 0 0, .string ⟨#[]⟩, .string ⟨#[]⟩, .slice none 0 0, .slice none 0 0, .slice none 0 0, .slice none 0 0, .slice none 0 0, .slice none 0 0] 29) := ⟨_, rfl⟩
 have HBR : Hid (Blk wa b0 29 zIm) := Lib.hid (by rw [hwa, hb0]; exact Blk.new _ _ _)
 have HWA : Hid (Below b0 w wa /\ wa.heap.size = b0 + 1) := Lib.hid (by rw [hwa, hb0]; exact ⟨(Below.refl _ _).alloc (Nat.le_refl _) _, by simp⟩)
 have HB0 : Hid (b0 = w.heap.size) := Lib.hid hb0
 have HPA := Lib.hid (parse_any s wa (HST.out.below (by rw [<- HB0.out]; exact HWA.out.1)))
 go_enter Tryz.func14, Tryz.ntmps14
 go_upto_region 1 with fail
 rw [<- hwa, <- hb0]
 clear hwa hb0
 go_upto_region 2 with fail
 refine HPA.out.mono ?_
 clear HPA
 intro x w1 hx
 unfold PaPost at hx
 cases hp : parse s with
 | err no r =>
  rw [hp] at hx
  obtain ⟨a, _, rfl, hb1⟩ := hx
  have hi5 : (Tryz.prog.info? 54).map (·.size) = some 5 := by kernel_rfl
  have HBR1 := Lib.hid (HBR.out.below hb1 HBR.out.lt)
  have HW1 : Hid (Below b0 w w1) := Lib.hid (HWA.out.1.trans (hb1.mono (by have := HWA.out; omega)))
  have HNO := Lib.hid (progI_err hp)
  clear hp hb1 HBR HWA
  rw [show zeroJ = Value.agg #[.int .i64 0, .int .i64 0, .string .empty, .slice none 0 0, .slice none 0 0] from rfl, show faultV no a = Value.iface 143 (.agg #[.int .i64 no, .int .i64 0, .int .i64 a]) from rfl]
  go_upto_region 2 with (refine wpList_store_row rfl 54 _ _ rfl _ _ rfl rfl 54 _ (heap_alloc_new _ _) (by simpa using hi5) (by simp) (by decide) ?_)
  obtain ⟨w2, hw2⟩ : ∃ w2, w2 = w1.alloc (.cells #[.int .i64 0, .int .i64 0, .string .empty, .slice none 0 0, .slice none 0 0] 54) := ⟨_, rfl⟩
  have HBR2 : Hid (Blk w2 b0 29 zIm) := Lib.hid (by rw [hw2]; exact HBR1.out.alloc _)
  have HW2 : Hid (Below b0 w w2) := Lib.hid (by rw [hw2]; exact HW1.out.alloc (by have := HBR1.out.lt; omega) _)
  rw [<- hw2]
  clear hw2 HBR1 HW1 hi5
  go_wp2_with (first | refine wpList_build_as rfl 29 _ rfl zIm run_empty_image ?_ | refine wpList_store_row rfl 29 _ _ rfl _ _ rfl rfl 29 _ HBR2.out infoIm rfl one_im ?_)
  refine bodyPost_ret (results_row_tmp rfl _ _ b0 29 zIm (0, 0) _ rfl (setRow_same HBR2.out zIm) Tryz.underlying29 rfl infoIm) rfl ?_
  refine ipost_no HNO.out ?_
  rw [<- HB0.out]
  exact setRow_below HW2.out (Nat.le_refl _) _
 | ok h k r =>
  rw [hp] at hx
  obtain ⟨iv, kv, bs, rfl, hot, _, hb1⟩ := hx
  have HVT : Hid (VT w1 (b0 + 1) (h, k) (jcells h iv kv).toArray) := Lib.hid (VT.of_ot (v := (h, k)) (by rw [<- HWA.out.2]; exact hot))
  have HBR1 := Lib.hid (HBR.out.below hb1 HBR.out.lt)
  have HW1 : Hid (Below b0 w w1 /\ b0 + 1 ≤ w1.heap.size) := Lib.hid ⟨HWA.out.1.trans (hb1.mono (by have := HWA.out; omega)), by have := HWA.out; have := hb1.size; omega⟩
  have HPS := Lib.hid hp
  have HGD := Lib.hid (gd_parse hp)
  have hi5 : (Tryz.prog.info? 54).map (·.size) = some 5 := by kernel_rfl
  have hone : (#[.int .i64 h.kind, .int .i64 h.num, .string ⟨h.text.toArray⟩, iv, kv] : Array Value).all (·.oneCell') = true := all_oneCell_toArray HVT.out.one
  clear hp hb1 hot HBR HWA
  go_upto_region 2 with (refine wpList_store_row rfl 54 _ _ rfl _ _ rfl rfl 54 _ (heap_alloc_new _ _) (by simpa using hi5) (by simp) hone ?_)
  rw [alloc_setRow]
  go_upto_region 5 with fail
  obtain ⟨bj, hbj⟩ : ∃ bj, bj = w1.heap.size := ⟨_, rfl⟩
  have HAT : Hid (∀ wx, Below bj w1 wx -> ∀ key, Calls Tryz.prog 43 #[.agg #[.int .i64 h.kind, .int .i64 h.num, .string ⟨h.text.toArray⟩, iv, kv], .string ⟨key.toArray⟩] wx fun x w' =>
     ∃ jv jk, x = .returned (.agg #[.int .i64 (atJ (h, k) key).1.kind, .int .i64 (atJ (h, k) key).1.num, .string ⟨(atJ (h, k) key).1.text.toArray⟩, jv, jk]) /\ VT w' wx.heap.size (atJ (h, k) key) (jcells (atJ (h, k) key).1 jv jk).toArray /\ Below wx.heap.size wx w') := Lib.hid (by
   obtain ⟨iv2, kv2, S, e, htv, hS⟩ := HVT.out
   have e2 : iv = iv2 /\ kv = kv2 := by simpa [jcells] using e
   obtain ⟨rfl, rfl⟩ := e2
   intro wx hx key
   exact at_any (h, k) iv kv key S wx (htv.kept fun p hp => hx.cell (by rw [hbj]; exact (hS _ hp).2)) (fun b hb => by have := (hS b hb).2; have := hx.size; omega) (by have := HGD.out.sz; simp only at this ⊢; omega) (by have := HGD.out.deep; simp only at this ⊢; omega))
  obtain ⟨w2, hw2⟩ : ∃ w2, w2 = (w1.alloc (.cells #[.int .i64 h.kind, .int .i64 h.num, .string ⟨h.text.toArray⟩, iv, kv] 54)).alloc (.cells #[.slice none 0 0, .string ⟨#[]⟩, .string ⟨#[]⟩, .slice none 0 0, .slice none 0 0, .slice none 0 0, .slice none 0 0, .slice none 0 0, .slice none 0 0] 29) := ⟨_, rfl⟩
  have HBJ : Hid (Blk w2 bj 54 #[.int .i64 h.kind, .int .i64 h.num, .string ⟨h.text.toArray⟩, iv, kv]) := Lib.hid (by rw [hw2, hbj]; exact (Blk.new _ _ _).alloc _)
  have HBI : Hid (Blk w2 (bj + 1) 29 #[.slice none 0 0, .string ⟨#[]⟩, .string ⟨#[]⟩, .slice none 0 0, .slice none 0 0, .slice none 0 0, .slice none 0 0, .slice none 0 0, .slice none 0 0]) := Lib.hid (by
   have := Blk.new (w1.alloc (.cells #[.int .i64 h.kind, .int .i64 h.num, .string ⟨h.text.toArray⟩, iv, kv] 54)) 29 #[.slice none 0 0, .string ⟨#[]⟩, .string ⟨#[]⟩, .slice none 0 0, .slice none 0 0, .slice none 0 0, .slice none 0 0, .slice none 0 0, .slice none 0 0]
   rw [hw2, hbj]; simpa using this)
  have hb2 : Below w1.heap.size w1 w2 := by rw [hw2]; exact ((Below.refl _ _).alloc (Nat.le_refl _) _).alloc (by simp) _
  have HBR2 := Lib.hid (HBR1.out.below hb2 HBR1.out.lt)
  have HW2 : Hid (Below b0 w w2 /\ b0 + 1 ≤ bj /\ w2.heap.size = bj + 2 /\ Below bj w1 w2) := Lib.hid ⟨HW1.out.1.trans (hb2.mono (by have := HW1.out; omega)), by rw [hbj]; exact HW1.out.2, by rw [hw2, hbj]; simp, by rw [hbj]; exact hb2⟩
  try rw [show w1.heap.size + 1 = bj + 1 by rw [hbj]]
  rw [<- hw2, <- hbj]
  clear hw2 hbj hb2 HBR1 HW1 hone HVT
  have x0 := HBJ.out.cell 0
  have x1 := HBJ.out.cell 1
  have x2 := HBJ.out.cell 2
  have x3 := HBJ.out.cell 3
  have x4 := HBJ.out.cell 4
  go_upto_region 6 with fail
  refine (HAT.out w2 HW2.out.2.2.2 kCfg).mono ?_
  rintro x w3 ⟨jv, jk, rfl, hv3, h3⟩
  obtain ⟨c, hc⟩ : ∃ c, c = atJ (h, k) kCfg := ⟨_, rfl⟩
  have HC := Lib.hid hc
  have HGC : Hid (Gd c) := Lib.hid (by rw [hc]; exact HGD.out.at _)
  rw [<- hc] at hv3 ⊢
  have HVC := Lib.hid hv3
  have hone : (#[.int .i64 c.1.kind, .int .i64 c.1.num, .string ⟨c.1.text.toArray⟩, jv, jk] : Array Value).all (·.oneCell') = true := all_oneCell_toArray hv3.one
  have HBR3 := Lib.hid (HBR2.out.below h3 HBR2.out.lt)
  have HBJ3 := Lib.hid (HBJ.out.below h3 HBJ.out.lt)
  have HBI3 := Lib.hid (HBI.out.below h3 HBI.out.lt)
  have HW3 : Hid (Below b0 w w3 /\ Below bj w1 w3 /\ bj + 2 ≤ w3.heap.size /\ b0 + 1 ≤ bj /\ w2.heap.size = bj + 2) := Lib.hid ⟨HW2.out.1.trans (h3.mono (by have := HW2.out; omega)), HW2.out.2.2.2.trans (h3.mono (by have := HW2.out; omega)), by have := HW2.out; have := h3.size; omega, HW2.out.2.1, HW2.out.2.2.1⟩
  clear hc hv3 h3 x0 x1 x2 x3 x4 HBR2 HBJ HBI HW2
  go_upto_region 6 with (refine wpList_store_row rfl 54 _ _ rfl _ _ rfl rfl 54 _ (heap_alloc_new _ _) (by simpa using hi5) (by simp) hone ?_)
  rw [alloc_setRow]
  obtain ⟨bc, hbc⟩ : ∃ bc, bc = w3.heap.size := ⟨_, rfl⟩
  obtain ⟨w4, hw4⟩ : ∃ w4, w4 = w3.alloc (.cells #[.int .i64 c.1.kind, .int .i64 c.1.num, .string ⟨c.1.text.toArray⟩, jv, jk] 54) := ⟨_, rfl⟩
  have hb4 : Below w3.heap.size w3 w4 := by rw [hw4]; exact (Below.refl _ _).alloc (Nat.le_refl _) _
  have HBC : Hid (Blk w4 bc 54 #[.int .i64 c.1.kind, .int .i64 c.1.num, .string ⟨c.1.text.toArray⟩, jv, jk]) := Lib.hid (by rw [hw4, hbc]; exact Blk.new _ _ _)
  have HBI4 := Lib.hid (HBI3.out.below hb4 HBI3.out.lt)
  have HBS : Hid (bj + 2 ≤ bc /\ b0 + 1 ≤ bj /\ w4.heap.size = bc + 1) := Lib.hid ⟨by rw [hbc]; exact HW3.out.2.2.1, HW3.out.2.2.2.1, by rw [hw4, hbc]; simp⟩
  have HFR : Hid (∀ wx, Kp (bc + 1) (fun b => b = bj + 1) w4 wx -> Blk wx bc 54 #[.int .i64 c.1.kind, .int .i64 c.1.num, .string ⟨c.1.text.toArray⟩, jv, jk] /\ Blk wx bj 54 #[.int .i64 h.kind, .int .i64 h.num, .string ⟨h.text.toArray⟩, iv, kv] /\ Blk wx b0 29 zIm /\ Below b0 w wx /\ Below bj w1 wx) := Lib.hid (fun wx hx => by
   have q := HBS.out
   refine ⟨hx.blk HBC.out (by omega) (by omega), hx.blk (HBJ3.out.below hb4 HBJ3.out.lt) (by omega) (by omega), hx.blk (HBR3.out.below hb4 HBR3.out.lt) (by omega) (by omega), ?_, ?_⟩
   . exact (HW3.out.1.trans (hb4.mono (by have := HW3.out; omega))).trans (Kp.below (hx.mono (by omega) (fun k hk e => by omega)))
   . exact (HW3.out.2.1.trans (hb4.mono (by have := HW3.out; omega))).trans (Kp.below (hx.mono (by omega) (fun k hk e => by omega))))
  have HAC : Hid (∀ wx, Kp (bc + 1) (fun b => b = bj + 1) w4 wx -> ∀ key, Calls Tryz.prog 43 #[.agg #[.int .i64 c.1.kind, .int .i64 c.1.num, .string ⟨c.1.text.toArray⟩, jv, jk], .string ⟨key.toArray⟩] wx fun x w' =>
     ∃ jv jk, x = .returned (.agg #[.int .i64 (atJ c key).1.kind, .int .i64 (atJ c key).1.num, .string ⟨(atJ c key).1.text.toArray⟩, jv, jk]) /\ VT w' wx.heap.size (atJ c key) (jcells (atJ c key).1 jv jk).toArray /\ Below wx.heap.size wx w') := Lib.hid (by
   obtain ⟨iv2, kv2, S, e, htv, hS⟩ := HVC.out.below hb4
   have e2 : jv = iv2 /\ jk = kv2 := by simpa [jcells] using e
   obtain ⟨rfl, rfl⟩ := e2
   have q := HBS.out
   have q2 := HW3.out
   intro wx hx key
   exact at_any c jv jk key S wx (htv.kept fun p hp => hx.cell (by have := (hS _ hp).2; omega) (by have := (hS _ hp).1; omega)) (fun b hb => by have := (hS b hb).2; have := hx.size; omega) (by have := HGC.out.sz; omega) (by have := HGC.out.deep; omega))
  rw [<- hw4, <- hbc]
  clear hw4 hbc hb4 HBR3 HBJ3 HBI3 HVC hone HW3
  have HRC : Hid (∀ wy, Blk wy bc 54 #[.int .i64 c.1.kind, .int .i64 c.1.num, .string ⟨c.1.text.toArray⟩, jv, jk] -> wy.rangeAt bc 0 (#[.int .i64 c.1.kind, .int .i64 c.1.num, .string ⟨c.1.text.toArray⟩, jv, jk] : Array Value).toList) := Lib.hid (fun wy h jj v hv => by rw [Nat.zero_add, h.cell]; simpa using hv)
  have HL4 : Hid (Lad w4 (bc + 1) w4.heap.size []) := Lib.hid (Nat.le_of_eq HBS.out.2.2.symm)
  refine wp_region_held_drew (S := (fun wy => wy.rangeAt bc 0 (#[.int .i64 c.1.kind, .int .i64 c.1.num, .string ⟨c.1.text.toArray⟩, jv, jk] : Array Value).toList)) (by kernel_rfl) (HRC.out _ HBC.out) (fun hHeld => ?_)
  refine wpAnyH_take (i := 0) (by simp only [List.getElem?_toArray, List.getElem?_cons_zero]; rfl) (by kernel_rfl) (by kernel_rfl) (by kernel_rfl) (by exact fun _ _ _ h => h) (yieldsIf_load_mid (by rfl) _ _ rfl _ _ rfl (#[.int .i64 c.1.kind, .int .i64 c.1.num, .string ⟨c.1.text.toArray⟩, jv, jk] : Array Value).toList _ (fun _ h => h) Tryz.underlying54 rfl (by kernel_rfl)) hHeld ?_
  try simp only [Act.put, List.setIfInBounds_toArray, List.set_cons_zero, List.set_cons_succ]
  refine wpAnyH_take (i := 3) (by simp only [List.getElem?_toArray, List.getElem?_cons_succ, List.getElem?_cons_zero]; rfl) (by kernel_rfl) (by kernel_rfl) (by kernel_rfl) (by exact fun _ _ _ h => h) (yieldsIf_load_mid (by rfl) _ _ rfl _ _ rfl (#[.int .i64 c.1.kind, .int .i64 c.1.num, .string ⟨c.1.text.toArray⟩, jv, jk] : Array Value).toList _ (fun _ h => h) Tryz.underlying54 rfl (by kernel_rfl)) hHeld ?_
  try simp only [Act.put, List.setIfInBounds_toArray, List.set_cons_zero, List.set_cons_succ]
  refine wpAnyH_ready (rs := [1]) (by kernel_rfl) (by simp) ?_
  refine rdy (fun K hK => ?_) AllReadyH.nil
  rw [if_pos (by rfl)]
  go_simp
  refine (HAC.out _ ((Kp.refl (bc + 1) (fun b => b = bj + 1) w4).drew) kCmd).mono ?_
  rintro y w5 ⟨j5, k5, rfl, hv5, h5⟩
  have h5 : Below w4.heap.size w4 w5 := ((Below.refl w4.heap.size w4).drew).trans h5
  have HK5 : Hid (Kp (bc + 1) (fun b => b = bj + 1) w4 w5) := Lib.hid (Kp.of_below (h5.mono (by have := HBS.out; omega)))
  have HV5 := Lib.hid hv5
  have HBI5 := Lib.hid (HBI4.out.below h5 HBI4.out.lt)
  have HL5 := Lib.hid (HL4.out.below h5)
  refine hK.out _ _ (HRC.out _ (HFR.out w5 HK5.out).1) (fun _ => ?_)
  clear hK hv5 h5 hHeld HBI4 HL4
  try simp only [Act.put, List.setIfInBounds_toArray, List.set_cons_zero, List.set_cons_succ]
  refine wpAnyH_ready (rs := [2]) (by kernel_rfl) (by simp) ?_
  refine rdy (fun K hK => ?_) AllReadyH.nil
  rw [if_pos (by rfl)]
  go_simp
  refine (texts_vt HV5.out (HGC.out.at kCmd)).mono ?_
  rintro y w6 ⟨cv, rfl, ho6, h6⟩
  obtain ⟨A5, c5, rfl, _⟩ := own_readsN ho6
  obtain ⟨l5, hl5⟩ : ∃ l5, l5 = textsJ (atJ c kCmd) := ⟨_, rfl⟩
  obtain ⟨n5, hn5⟩ : ∃ n5, n5 = l5.length := ⟨_, rfl⟩
  have HE5 : Hid (l5 = textsJ (atJ c kCmd) /\ n5 = l5.length) := Lib.hid ⟨hl5, hn5⟩
  rw [<- hl5, <- hn5] at ho6 ⊢
  have HK6 : Hid (Kp (bc + 1) (fun b => b = bj + 1) w4 w6) := Lib.hid (HK5.out.step h6 (by have := HBS.out; have := HK5.out.size; omega))
  have HL6 : Hid (Lad w6 (bc + 1) w6.heap.size [⟨9, 1, .slice A5 n5 c5, n5, tx l5⟩]) := Lib.hid (Lad.step HL5.out h6 ho6)
  have HBI6 := Lib.hid (HBI5.out.below h6 HBI5.out.lt)
  refine hK.out _ _ (HRC.out _ (HFR.out w6 HK6.out).1) (fun _ => ?_)
  clear hK ho6 h6 hl5 hn5 HBI5 HV5 HK5 HL5
  try simp only [Act.put, List.setIfInBounds_toArray, List.set_cons_zero, List.set_cons_succ]
  refine tk 6 (hS := HRC.out _ (HFR.out w6 HK6.out).1) (h := ?_)
  try simp only [Act.put, List.setIfInBounds_toArray, List.set_cons_zero, List.set_cons_succ]
  refine tk 7 (hS := HRC.out _ (HFR.out w6 HK6.out).1) (h := ?_)
  try simp only [Act.put, List.setIfInBounds_toArray, List.set_cons_zero, List.set_cons_succ]
  refine wpAnyH_ready (rs := [4]) (by kernel_rfl) (by simp) ?_
  refine rdy (fun K hK => ?_) AllReadyH.nil
  rw [if_pos (by rfl)]
  go_simp
  refine (HAC.out _ HK6.out kEntry).mono ?_
  rintro y w7 ⟨j7, k7, rfl, hv7, h7⟩
  have HK7 : Hid (Kp (bc + 1) (fun b => b = bj + 1) w4 w7) := Lib.hid (HK6.out.step h7 (by have := HBS.out; have := HK6.out.size; omega))
  have HV7 := Lib.hid hv7
  have HBI7 := Lib.hid (HBI6.out.below h7 HBI6.out.lt)
  have HL7 := Lib.hid (HL6.out.below h7)
  refine hK.out _ _ (HRC.out _ (HFR.out w7 HK7.out).1) (fun _ => ?_)
  clear hK hv7 h7 HBI6 HK6 HL6
  try simp only [Act.put, List.setIfInBounds_toArray, List.set_cons_zero, List.set_cons_succ]
  refine wpAnyH_ready (rs := [5]) (by kernel_rfl) (by simp) ?_
  refine rdy (fun K hK => ?_) AllReadyH.nil
  rw [if_pos (by rfl)]
  go_simp
  refine (texts_vt HV7.out (HGC.out.at kEntry)).mono ?_
  rintro y w8 ⟨nv, rfl, ho8, h8⟩
  obtain ⟨A6, c6, rfl, _⟩ := own_readsN ho8
  obtain ⟨l6, hl6⟩ : ∃ l6, l6 = textsJ (atJ c kEntry) := ⟨_, rfl⟩
  obtain ⟨n6, hn6⟩ : ∃ n6, n6 = l6.length := ⟨_, rfl⟩
  have HE6 : Hid (l6 = textsJ (atJ c kEntry) /\ n6 = l6.length) := Lib.hid ⟨hl6, hn6⟩
  rw [<- hl6, <- hn6] at ho8 ⊢
  have HK8 : Hid (Kp (bc + 1) (fun b => b = bj + 1) w4 w8) := Lib.hid (HK7.out.step h8 (by have := HBS.out; have := HK7.out.size; omega))
  have HL8 : Hid (Lad w8 (bc + 1) w8.heap.size [⟨9, 1, .slice A5 n5 c5, n5, tx l5⟩, ⟨9, 1, .slice A6 n6 c6, n6, tx l6⟩]) := Lib.hid (Lad.step HL7.out h8 ho8)
  have HBI8 := Lib.hid (HBI7.out.below h8 HBI7.out.lt)
  refine hK.out _ _ (HRC.out _ (HFR.out w8 HK8.out).1) (fun _ => ?_)
  clear hK ho8 h8 hl6 hn6 HBI7 HV7 HK7 HL7
  try simp only [Act.put, List.setIfInBounds_toArray, List.set_cons_zero, List.set_cons_succ]
  have k5 := HBI8.out.cell 5
  have l5z := HBI8.out.frozen 5
  refine wpAnyH_ready (rs := [8]) (by kernel_rfl) (by simp) ?_
  refine rdy (fun K hK => ?_) AllReadyH.nil
  rw [if_pos (by rfl)]
  go_simp
  obtain ⟨w9, hw9⟩ : ∃ w9, w9 = w8.setCell ⟨bj + 1, 5, none⟩ (.slice A5 n5 c5) := ⟨_, rfl⟩
  have HBI9 : Hid (Blk w9 (bj + 1) 29 #[.slice none 0 0, .string ⟨#[]⟩, .string ⟨#[]⟩, .slice none 0 0, .slice none 0 0, .slice A5 n5 c5, .slice none 0 0, .slice none 0 0, .slice none 0 0]) := Lib.hid (by rw [hw9]; exact HBI8.out.set_ 5 _)
  have HK9 : Hid (Kp (bc + 1) (fun b => b = bj + 1) w4 w9) := Lib.hid (by rw [hw9]; exact Kp.setCell (X := fun b => b = bj + 1) (p := ⟨bj + 1, 5, none⟩) HK8.out (.inr rfl) _)
  have HL9 : Hid (Lad w9 (bc + 1) w9.heap.size [⟨9, 1, .slice A5 n5 c5, n5, tx l5⟩, ⟨9, 1, .slice A6 n6 c6, n6, tx l6⟩]) := Lib.hid (by rw [hw9, World.size_setCell]; exact HL8.out.set (p := ⟨bj + 1, 5, none⟩) (by show bj + 1 < bc + 1; have := HBS.out; omega) _)
  rw [<- hw9]
  refine hK.out _ _ (HRC.out _ (HFR.out w9 HK9.out).1) (fun _ => ?_)
  clear hK hw9 k5 l5z HBI8 HK8 HL8
  try simp only [Act.put, List.setIfInBounds_toArray, List.set_cons_zero, List.set_cons_succ]
  refine tk 9 (hS := HRC.out _ (HFR.out w9 HK9.out).1) (h := ?_)
  try simp only [Act.put, List.setIfInBounds_toArray, List.set_cons_zero, List.set_cons_succ]
  refine tk 10 (hS := HRC.out _ (HFR.out w9 HK9.out).1) (h := ?_)
  try simp only [Act.put, List.setIfInBounds_toArray, List.set_cons_zero, List.set_cons_succ]
  have k6 := HBI9.out.cell 6
  have l6z := HBI9.out.frozen 6
  refine wpAnyH_ready (rs := [11]) (by kernel_rfl) (by simp) ?_
  refine rdy (fun K hK => ?_) AllReadyH.nil
  rw [if_pos (by rfl)]
  go_simp
  obtain ⟨wi, hwi⟩ : ∃ wi, wi = w9.setCell ⟨bj + 1, 6, none⟩ (.slice A6 n6 c6) := ⟨_, rfl⟩
  have HBIi : Hid (Blk wi (bj + 1) 29 #[.slice none 0 0, .string ⟨#[]⟩, .string ⟨#[]⟩, .slice none 0 0, .slice none 0 0, .slice A5 n5 c5, .slice A6 n6 c6, .slice none 0 0, .slice none 0 0]) := Lib.hid (by rw [hwi]; exact HBI9.out.set_ 6 _)
  have HKi : Hid (Kp (bc + 1) (fun b => b = bj + 1) w4 wi) := Lib.hid (by rw [hwi]; exact Kp.setCell (X := fun b => b = bj + 1) (p := ⟨bj + 1, 6, none⟩) HK9.out (.inr rfl) _)
  have HLi : Hid (Lad wi (bc + 1) wi.heap.size [⟨9, 1, .slice A5 n5 c5, n5, tx l5⟩, ⟨9, 1, .slice A6 n6 c6, n6, tx l6⟩]) := Lib.hid (by rw [hwi, World.size_setCell]; exact HL9.out.set (p := ⟨bj + 1, 6, none⟩) (by show bj + 1 < bc + 1; have := HBS.out; omega) _)
  rw [<- hwi]
  refine hK.out _ _ (HRC.out _ (HFR.out wi HKi.out).1) (fun _ => ?_)
  clear hK hwi k6 l6z HBI9 HK9 HL9
  try simp only [Act.put]
  refine wpAnyH_done (by kernel_rfl) ?_ _
  have hq := (HFR.out wi HKi.out).1
  have x0 := hq.cell 0
  have x1 := hq.cell 1
  have x2 := hq.cell 2
  have x3 := hq.cell 3
  have x4 := hq.cell 4
  clear hq
  go_upto_region 8 with fail
  refine (HAC.out wi HKi.out kEnv).mono ?_
  rintro y wj ⟨jE, kE, rfl, hvj, hj⟩
  have HKj : Hid (Kp (bc + 1) (fun b => b = bj + 1) w4 wj) := Lib.hid (HKi.out.step hj (by have := HBS.out; have := HKi.out.size; omega))
  have HVj := Lib.hid hvj
  have HBIj := Lib.hid (HBIi.out.below hj HBIi.out.lt)
  have HLj := Lib.hid (HLi.out.below hj)
  clear hvj hj x0 x1 x2 x3 x4 HBIi HKi HLi
  go_upto_region 8 with fail
  refine (texts_vt HVj.out (HGC.out.at kEnv)).mono ?_
  rintro y wk ⟨tv, rfl, hok, hk⟩
  have HKk : Hid (Kp (bc + 1) (fun b => b = bj + 1) w4 wk) := Lib.hid (HKj.out.step hk (by have := HBS.out; have := HKj.out.size; omega))
  have HOT : Hid (wk.ownsRow (bc + 1) 9 1 tv (textsJ (atJ c kEnv)).length (tx (textsJ (atJ c kEnv)))) := Lib.hid (Js.own_less hok (by have := HBS.out; have := HKj.out.size; omega))
  have HBIk := Lib.hid (HBIj.out.below hk HBIj.out.lt)
  have HLk := Lib.hid (HLj.out.below hk)
  clear hok hk HBIj HLj HVj HKj
  obtain ⟨At, ct, etv, hrt⟩ := RdS.of_own HOT.out
  have HRT : Hid (RdS wk (fun b => bc + 1 ≤ b /\ b < wk.heap.size) 1 At (textsJ (atJ c kEnv)).length (tx (textsJ (atJ c kEnv)))) := Lib.hid (hrt.more fun b hb => own_lt HOT.out hb)
  clear hrt
  subst etv
  obtain ⟨nT, hnT⟩ : ∃ nT, nT = (textsJ (atJ c kEnv)).length := ⟨_, rfl⟩
  have HNT : Hid (nT = (textsJ (atJ c kEnv)).length /\ nT ≤ 4194304) := Lib.hid ⟨hnT, by rw [hnT]; unfold textsJ; rw [List.length_map, toL_len]; exact (HGC.out.at kEnv).len⟩
  rw [<- hnT] at HRT ⊢
  clear hnT HOT
  go_upto_region 8 with fail
  obtain ⟨p0, hpI, py0, py1, py2⟩ := info_parts infoPair
  obtain ⟨le, hle⟩ : ∃ le, le = textsJ (atJ c kEnv) := ⟨_, rfl⟩
  have HLE : Hid (le = textsJ (atJ c kEnv) /\ ∀ x ∈ le, x.length ≤ 4194304) := Lib.hid ⟨hle, fun x hx => by
   have h1 := sizeT_mem (by rw [<- hle]; exact hx : x ∈ textsJ (atJ c kEnv))
   have h2 := size_textsJ (atJ c kEnv)
   have h3 := (HGC.out.at kEnv).wt
   omega⟩
  rw [<- hle] at HRT HNT
  obtain ⟨BE, hBE⟩ : ∃ BE, BE = wk.heap.size := ⟨_, rfl⟩
  have HBE : Hid (BE = wk.heap.size /\ bc + 1 ≤ BE) := Lib.hid ⟨hBE, by have := HKk.out.size; have := HBS.out; omega⟩
  clear hle hBE
  go_loopw [49] (fun ix wr => ∃ (j : Nat) (pv : Value), j ≤ nT /\ ix = .int .i64 j /\ Hid (Blk wr (bj + 1) 29 #[pv, .string ⟨#[]⟩, .string ⟨#[]⟩, .slice none 0 0, .slice none 0 0, .slice A5 n5 c5, .slice A6 n6 c6, .slice none 0 0, .slice none 0 0]) /\ Hid (wr.ownsRow BE 99 2 pv j (px ((le.take j).map cutE))) /\ Hid (Kp BE (fun b => b = bj + 1) wk wr)) (fun ix _ => nT - (intOf ix).toNat)
  case atStart => exact ⟨0, _, by omega, rfl, HBIk, Lib.hid (World.ownsRow_nil _ _ _ _), Lib.hid (Kp.refl _ _ _)⟩
  case round =>
   clear HBIk
   obtain ⟨j, pv, hj, rfl, HBI, HO, HK⟩ := hrel
   by_cases hjl : j < nT
   . have hlt2 : j < le.length := by have := HNT.out; omega
     obtain ⟨ad, uu, rfl, _, hu, hcx⟩ := ((HRT.out.kept (fun p hp => HK.out.cell (by have := hp.2; have := HBE.out; omega) (by have := hp.1; have := HBS.out; omega))).reads (B := wr.heap.size) (fun b hb => by have := hb.2; have := HBE.out; have := HK.out.size; omega)).at_ hjl
     have hxu := tx_get hu hlt2
     subst hxu
     have HX : Hid ((le.take (j + 1)).map cutE = (le.take j).map cutE ++ [cutE (le.getD j [])] /\ (le.getD j []).length ≤ 4194304) := Lib.hid ⟨by
       rw [List.take_succ_eq_append_getElem hlt2, List.map_append]
       simp [List.getD, List.getElem?_eq_getElem hlt2], HLE.out.2 _ (by simp [List.getD, List.getElem?_eq_getElem hlt2])⟩
     generalize le.getD j [] = x at hcx hu HX
     clear hu hlt2
     go_upto_region 10 with fail
     clear hcx
     go_upto_region 11 with fail
     refine (cut_any 61 x wr (by have := HX.out.2; omega)).mono ?_
     rintro y wz ⟨rfl, nn, hwz⟩
     have hbz : Below wr.heap.size wr wz := by rw [hwz]; exact Kp.below ((Kp.refl _ (fun _ => False) wr).drewN nn)
     have HBIz := Lib.hid (HBI.out.below hbz HBI.out.lt)
     have HOz := Lib.hid (own_kept HO.out hbz)
     have HKz : Hid (Kp BE (fun b => b = bj + 1) wk wz /\ BE ≤ wz.heap.size) := Lib.hid ⟨HK.out.step hbz (by have := HK.out.size; have := HBE.out; omega), by have := HK.out.size; have := HBE.out; have := hbz.size; omega⟩
     obtain ⟨A9, c9, epv, _⟩ := own_readsN HOz.out
     subst epv
     obtain ⟨y1, hy1⟩ : ∃ y1, y1 = x.takeWhile (· != 61) := ⟨_, rfl⟩
     obtain ⟨y2, hy2⟩ : ∃ y2, y2 = (x.dropWhile (· != 61)).drop 1 := ⟨_, rfl⟩
     have HXY : Hid (cutE x = (y1, y2)) := Lib.hid (by rw [hy1, hy2]; rfl)
     rw [<- hy1, <- hy2]
     have HNJ := Lib.hid HNT.out.2
     have hjn : j ≤ 4194304 := by have := HNT.out.2; omega
     have hsz : BE ≤ wz.heap.size := HKz.out.2
     clear hy1 hy2 hwz hbz HBI HO HK
     have k0 := HBIz.out.cell 0
     go_wp2_with (at_builtin; go_loud (refine wpList_append_any _ rfl _ _ 22 rfl BE 99 p0 _ 2 32 Tryz.underlying22 hpI py0 py1 py2 rfl (by decide) (.slice A9 j c9) j _ rfl (World.ownsRow.alloc HOz.out _) (wz.heap.size + 1) (some ⟨wz.heap.size, 0, none⟩) 1 1 [.string ⟨y1.toArray⟩, .string ⟨y2.toArray⟩] rfl ((Reads.of_block (heap_alloc_new _ _) rfl).more (by simp)) (by intro u hu; simp only [List.mem_cons, List.not_mem_nil, or_false] at hu; rcases hu with rfl | rfl <;> rfl) (by unfold maxLen; omega) (by omega) (by simp; omega) ?_; intro v6 wv q1 q2 q3; obtain ⟨A8, c8, e6, _⟩ := own_readsN q1; subst e6; have HOv := Lib.hid q1; have HGv := Lib.hid q2; have HBIv := Lib.hid ((HBIz.out.alloc _).grown q2 (fun e => by have := (own_lt HOz.out e.symm).1; have := HBE.out; have := HBS.out; omega)); have k1 := HBIv.out.cell 0; have l1 := HBIv.out.frozen 0; clear q1 q2 q3))
     have HKa : Kp BE (fun b => b = bj + 1) wk (wz.alloc (.cells #[.string ⟨y1.toArray⟩, .string ⟨y2.toArray⟩] 99)) := HKz.out.1.alloc hsz _
     have HKv : Hid (Kp BE (fun b => b = bj + 1) wk wv) := Lib.hid (HKa.grown HGv.out (by simp; omega) (fun g e => .inl (own_lt HOz.out e).1))
     refine ⟨⟨j + 1, .slice A8 (j + 1) c8, by omega, by push_cast; rfl, Lib.hid (HBIv.out.set_ 0 _), Lib.hid ?_, Lib.hid (Kp.setCell (X := fun b => b = bj + 1) (p := ⟨bj + 1, 0, none⟩) HKv.out (.inr rfl) _)⟩, ?_⟩
     . rw [HX.out.1, HXY.out, px_append]
       exact own_at HOv.out fun b hb => Below.heap_setCell wv ⟨bj + 1, 0, none⟩ _ b (by show b ≠ bj + 1; have := (own_lt HOv.out hb).1; have := HBE.out; have := HBS.out; omega)
     . show nT - ((j : Int) + 1).toNat < nT - ((j : Int)).toNat
       omega
   . obtain rfl : j = nT := by omega
     obtain ⟨wE, hwE⟩ : ∃ wE, wE = wr := ⟨_, rfl⟩
     subst hwE
     have hle : le.length = j := HNT.out.1.symm
     rw [<- hle, List.take_length, hle] at HO
     have HKE : Hid (Kp (bc + 1) (fun b => b = bj + 1) w4 wE) := Lib.hid (HKk.out.trans (HK.out.mono (by have := HBE.out; omega) (fun _ _ e => e)))
     obtain ⟨A1, c1, epv, _⟩ := own_readsN HO.out
     subst epv
     have HLE1 : Hid (Lad wE (bc + 1) wE.heap.size [⟨9, 1, .slice A5 n5 c5, n5, tx l5⟩, ⟨9, 1, .slice A6 n6 c6, n6, tx l6⟩, ⟨99, 2, .slice A1 j c1, j, px (le.map cutE)⟩]) := Lib.hid (by
       have h1 : Lad wk (bc + 1) BE [⟨9, 1, .slice A5 n5 c5, n5, tx l5⟩, ⟨9, 1, .slice A6 n6 c6, n6, tx l6⟩] := by rw [HBE.out.1]; exact HLk.out
       exact (h1.kp HK.out (Nat.le_refl _) (fun b e => by have := HBS.out; omega)).push HO.out (by rw [HBE.out.1]; exact HK.out.size) (Nat.le_refl _))
     clear hle HO HK HKk HRT HLk
     go_upto_region 13 with fail
     have HS13 : Hid (∀ wy, Blk wy (bj + 1) 29 #[.slice A1 j c1, .string ⟨#[]⟩, .string ⟨#[]⟩, .slice none 0 0, .slice none 0 0, .slice A5 n5 c5, .slice A6 n6 c6, .slice none 0 0, .slice none 0 0] -> Blk wy bc 54 #[.int .i64 c.1.kind, .int .i64 c.1.num, .string ⟨c.1.text.toArray⟩, jv, jk] -> wy.cell? ⟨bj + 1, 3, none⟩ = some (.slice none 0 0) /\ wy.rangeAt bc 0 (#[.int .i64 c.1.kind, .int .i64 c.1.num, .string ⟨c.1.text.toArray⟩, jv, jk] : Array Value).toList) := Lib.hid (fun wy h1 h2 => ⟨h1.cell 3, HRC.out wy h2⟩)
     refine wp_region_R (S := (fun wy => wy.cell? ⟨bj + 1, 3, none⟩ = some (.slice none 0 0) /\ wy.rangeAt bc 0 (#[.int .i64 c.1.kind, .int .i64 c.1.num, .string ⟨c.1.text.toArray⟩, jv, jk] : Array Value).toList)) 9 (by kernel_rfl) (HS13.out _ HBI.out (HFR.out _ HKE.out).1) (fun hHeld => ?_)
     refine tkC 0 (hS := hHeld) (h := ?_)
     try simp only [Act.put, List.setIfInBounds_toArray, List.set_cons_zero, List.set_cons_succ]
     refine tkC 1 (hS := hHeld) (h := ?_)
     try simp only [Act.put, List.setIfInBounds_toArray, List.set_cons_zero, List.set_cons_succ]
     refine tkC 2 (hS := hHeld) (h := ?_)
     try simp only [Act.put, List.setIfInBounds_toArray, List.set_cons_zero, List.set_cons_succ]
     refine tkC 3 (hy := yieldsIf_load_mid (by rfl) _ _ rfl _ _ rfl (#[.int .i64 c.1.kind, .int .i64 c.1.num, .string ⟨c.1.text.toArray⟩, jv, jk] : Array Value).toList _ (fun _ h => h.2) Tryz.underlying54 rfl (by kernel_rfl)) (hS := hHeld) (h := ?_)
     try simp only [Act.put, List.setIfInBounds_toArray, List.set_cons_zero, List.set_cons_succ]
     refine oneR 4 (fun K hK => ?_)
     rw [if_pos (by rfl)]
     go_simp
     refine (HAC.out _ HKE.out.drew kPorts).mono ?_
     rintro y wF ⟨jF, kF, rfl, hvF, hF⟩
     have hF : Below wE.heap.size wE wF := ((Below.refl wE.heap.size wE).drew).trans hF
     obtain ⟨AK, cK, ekF, hrF⟩ := keys_vt hvF
     subst ekF
     have HKF : Hid (Kp (bc + 1) (fun b => b = bj + 1) w4 wF /\ bc + 1 ≤ wE.heap.size /\ wE.heap.size ≤ wF.heap.size) := Lib.hid ⟨HKE.out.step hF (by have := HBS.out; have := HKE.out.size; omega), by have := HBS.out; have := HKE.out.size; omega, hF.size⟩
     have HBIF := Lib.hid (HBI.out.below hF HBI.out.lt)
     have HLF := Lib.hid (HLE1.out.below hF)
     obtain ⟨lk, hlk⟩ : ∃ lk, lk = (atJ c kPorts).1.keys := ⟨_, rfl⟩
     obtain ⟨nK, hnK⟩ : ∃ nK, nK = lk.length := ⟨_, rfl⟩
     have HLK : Hid (lk = (atJ c kPorts).1.keys /\ nK = lk.length /\ nK ≤ 4194304) := Lib.hid ⟨hlk, hnK, by rw [hnK, hlk]; have h1 := size_keys (atJ c kPorts).1; have h2 := (HGC.out.at kPorts).wt; omega⟩
     rw [<- hlk] at hrF ⊢
     rw [<- hnK] at hrF ⊢
     have HRF : Hid (Reads wF wF.heap.size 1 AK nK (tx lk)) := Lib.hid (hrF.reads fun b hb => hb.2)
     refine hK.out _ _ (fun _ => HS13.out _ HBIF.out (HFR.out _ HKF.out.1).1) (fun _ => ?_)
     clear hK hvF hF hrF hlk hnK hHeld HBI HKE HLE1
     try simp only [Act.put, List.setIfInBounds_toArray, List.set_cons_zero, List.set_cons_succ]
     have hf4 := run_json4
     refine tkC 5 (hS := HS13.out _ HBIF.out (HFR.out _ HKF.out.1).1) (h := ?_)
     clear hf4
     try simp only [Act.put, List.setIfInBounds_toArray, List.set_cons_zero, List.set_cons_succ]
     obtain ⟨i0, hi, hz0, hz1, hz2⟩ := info_parts infoStr
     refine oneR 6 (fun K hK => ?_)
     rw [if_pos (by rfl)]
     refine wp_append_any (P := Tryz.prog) _ _ _ 23 rfl wF.heap.size 9 i0 (.string .empty) 1 16 Tryz.underlying23 hi hz0 hz1 hz2 rfl (by decide) (.slice none 0 0) 0 [] rfl (World.ownsRow_nil _ _ _ _) wF.heap.size AK nK _ (tx lk) rfl HRF.out (by intro u hu; obtain ⟨t, _, rfl⟩ := List.mem_map.1 hu; rfl) (by have := HLK.out; unfold maxLen; omega) (by have := HLK.out; omega) (Nat.le_refl _) ?_
     intro v2 wG g1 g2 g3
     rw [Nat.zero_add, List.nil_append] at g1
     obtain ⟨A4, c4, e4, _⟩ := own_readsN g1
     subst e4
     have HKG : Hid (Kp (bc + 1) (fun b => b = bj + 1) w4 wG) := Lib.hid (HKF.out.1.grown g2 (by have := HKF.out; omega) (fun g e => by cases e))
     have HLG : Hid (Lad wG (bc + 1) wG.heap.size [⟨9, 1, .slice A5 n5 c5, n5, tx l5⟩, ⟨9, 1, .slice A6 n6 c6, n6, tx l6⟩, ⟨99, 2, .slice A1 j c1, j, px (le.map cutE)⟩, ⟨9, 1, .slice A4 nK c4, nK, tx lk⟩]) := Lib.hid (Lad.grew HLF.out g2 g1)
     have HBIG : Hid (Blk wG (bj + 1) 29 #[.slice A1 j c1, .string ⟨#[]⟩, .string ⟨#[]⟩, .slice none 0 0, .slice none 0 0, .slice A5 n5 c5, .slice A6 n6 c6, .slice none 0 0, .slice none 0 0]) := Lib.hid (HBIF.out.grown g2 (fun e => by cases e))
     refine hK.out _ _ (fun _ => HS13.out _ HBIG.out (HFR.out _ HKG.out).1) (fun _ => ?_)
     clear hK g1 g2 g3 HBIF HKF HRF HLF
     try simp only [Act.put, List.setIfInBounds_toArray, List.set_cons_zero, List.set_cons_succ]
     refine tkC 7 (hS := HS13.out _ HBIG.out (HFR.out _ HKG.out).1) (h := ?_)
     try simp only [Act.put, List.setIfInBounds_toArray, List.set_cons_zero, List.set_cons_succ]
     refine tkC 8 (hS := HS13.out _ HBIG.out (HFR.out _ HKG.out).1) (h := ?_)
     try simp only [Act.put, List.setIfInBounds_toArray, List.set_cons_zero, List.set_cons_succ]
     have k3 := HBIG.out.cell 3
     have l3 := HBIG.out.frozen 3
     refine oneR 9 (fun K hK => ?_)
     rw [if_pos (by rfl)]
     go_simp
     obtain ⟨wH, hwH⟩ : ∃ wH, wH = wG.setCell ⟨bj + 1, 3, none⟩ (.slice A4 nK c4) := ⟨_, rfl⟩
     have HBIH : Hid (Blk wH (bj + 1) 29 #[.slice A1 j c1, .string ⟨#[]⟩, .string ⟨#[]⟩, .slice A4 nK c4, .slice none 0 0, .slice A5 n5 c5, .slice A6 n6 c6, .slice none 0 0, .slice none 0 0]) := Lib.hid (by rw [hwH]; exact HBIG.out.set_ 3 _)
     have HKH : Hid (Kp (bc + 1) (fun b => b = bj + 1) w4 wH) := Lib.hid (by rw [hwH]; exact Kp.setCell (X := fun b => b = bj + 1) (p := ⟨bj + 1, 3, none⟩) HKG.out (.inr rfl) _)
     have HLH : Hid (Lad wH (bc + 1) wH.heap.size [⟨9, 1, .slice A5 n5 c5, n5, tx l5⟩, ⟨9, 1, .slice A6 n6 c6, n6, tx l6⟩, ⟨99, 2, .slice A1 j c1, j, px (le.map cutE)⟩, ⟨9, 1, .slice A4 nK c4, nK, tx lk⟩]) := Lib.hid (by rw [hwH, World.size_setCell]; exact HLG.out.set (p := ⟨bj + 1, 3, none⟩) (by show bj + 1 < bc + 1; have := HBS.out; omega) _)
     rw [<- hwH]
     refine hK.out _ _ (fun h => absurd rfl h) (fun _ => ?_)
     clear hK k3 l3 hwH HBIG HKG HLG HS13
     try simp only [Act.put]
     refine wpAnyR_done (by kernel_rfl) ?_ _
     have hq := (HFR.out wH HKH.out).1
     have x0 := hq.cell 0
     have x1 := hq.cell 1
     have x2 := hq.cell 2
     have x3 := hq.cell 3
     have x4 := hq.cell 4
     clear hq
     go_upto_region 15 with fail
     refine (HAC.out wH HKH.out kLabels).mono ?_
     rintro y wI ⟨jL, kL, rfl, hvI, hI⟩
     obtain ⟨lb, hlb⟩ : ∃ lb, lb = atJ c kLabels := ⟨_, rfl⟩
     have HLB : Hid (lb = atJ c kLabels /\ Gd lb) := Lib.hid ⟨hlb, by rw [hlb]; exact HGC.out.at _⟩
     rw [<- hlb] at hvI ⊢
     obtain ⟨A8, c8, ekL, hrk⟩ := keys_vt hvI
     obtain ⟨A7, c7, us7, S7, ejL, hri, htri, hS7⟩ := items_vt hvI
     have hone := all_oneCell_toArray hvI.one
     subst ekL ejL
     obtain ⟨nI, hnI⟩ : ∃ nI, nI = lb.2.len := ⟨_, rfl⟩
     obtain ⟨nQ, hnQ⟩ : ∃ nQ, nQ = lb.1.keys.length := ⟨_, rfl⟩
     have HNI : Hid (nI = lb.2.len /\ nQ = lb.1.keys.length /\ nI ≤ 4194304 /\ nQ ≤ 4194304) := Lib.hid ⟨hnI, hnQ, by rw [hnI]; exact HLB.out.2.len, by rw [hnQ]; have h1 := size_keys lb.1; have h2 := HLB.out.2.wt; omega⟩
     simp only [jcells] at hone
     rw [<- hnI] at hri hone ⊢
     rw [<- hnQ] at hrk hone ⊢
     have HKI : Hid (Kp (bc + 1) (fun b => b = bj + 1) w4 wI /\ bc + 1 ≤ wH.heap.size /\ wH.heap.size ≤ wI.heap.size) := Lib.hid ⟨HKH.out.step hI (by have := HBS.out; have := HKH.out.size; omega), by have := HBS.out; have := HKH.out.size; omega, hI.size⟩
     have HRK : Hid (RdS wI (fun b => wH.heap.size ≤ b /\ b < wI.heap.size) 1 A8 nQ (tx lb.1.keys)) := Lib.hid hrk
     have HRI := Lib.hid hri
     have HTRI := Lib.hid htri
     have HS7 := Lib.hid hS7
     have HBII := Lib.hid (HBIH.out.below hI HBIH.out.lt)
     have HLI := Lib.hid (HLH.out.below hI)
     clear hvI hI hrk hri htri hS7 hlb hnI hnQ x0 x1 x2 x3 x4 HBIH HKH HLH
     go_upto_region 15 with (refine wpList_store_row rfl 54 _ _ rfl _ _ rfl rfl 54 _ (heap_alloc_new _ _) (by simpa using hi5) (by simp) hone ?_)
     rw [alloc_setRow]
     obtain ⟨bl, hbl⟩ : ∃ bl, bl = wI.heap.size := ⟨_, rfl⟩
     obtain ⟨wJ, hwJ⟩ : ∃ wJ, wJ = wI.alloc (.cells #[.int .i64 lb.1.kind, .int .i64 lb.1.num, .string ⟨lb.1.text.toArray⟩, .slice A7 nI c7, .slice A8 nQ c8] 54) := ⟨_, rfl⟩
     have hbJ : Below wI.heap.size wI wJ := by rw [hwJ]; exact (Below.refl _ _).alloc (Nat.le_refl _) _
     have HBL : Hid (Blk wJ bl 54 #[.int .i64 lb.1.kind, .int .i64 lb.1.num, .string ⟨lb.1.text.toArray⟩, .slice A7 nI c7, .slice A8 nQ c8]) := Lib.hid (by rw [hwJ, hbl]; exact Blk.new _ _ _)
     have HBLS : Hid (wJ.heap.size = bl + 1 /\ bl = wI.heap.size /\ bc + 1 ≤ bl) := Lib.hid (by rw [hwJ, hbl]; exact ⟨by simp, rfl, by have := HKI.out; omega⟩)
     have HKJ : Hid (Kp (bc + 1) (fun b => b = bj + 1) w4 wJ) := Lib.hid (HKI.out.1.step hbJ (by have := HKI.out; omega))
     have HBIJ := Lib.hid (HBII.out.below hbJ HBII.out.lt)
     have HLJ := Lib.hid (HLI.out.below hbJ)
     have HRKJ : Hid (RdS wJ (fun b => bc + 1 ≤ b /\ b < bl) 1 A8 nQ (tx lb.1.keys)) := Lib.hid ((HRK.out.kept fun p hp => hbJ.cell hp.2).more fun b hb => by have := HKI.out; omega)
     have HRIJ : Hid (RdS wJ S7 5 A7 nI us7) := Lib.hid (HRI.out.kept fun p hp => hbJ.cell (HS7.out _ hp).2)
     have HTRJ : Hid (TR encJ wJ S7 lb.2 us7) := Lib.hid (HTRI.out.kept fun p hp => hbJ.cell (HS7.out _ hp).2)
     have HS7J : Hid (∀ b, S7 b -> bc + 1 ≤ b /\ b < bl) := Lib.hid (fun b hb => by have := HS7.out b hb; have := HKI.out; omega)
     rw [<- hwJ, <- hbl]
     clear hwJ hbl hbJ hone HRK HRI HTRI HS7 HKI HBII HLI
     have z3 := HBL.out.cell 3
     go_upto_region 16 with fail
     obtain ⟨BF, hBF⟩ : ∃ BF, BF = wJ.heap.size := ⟨_, rfl⟩
     have HBF : Hid (BF = wJ.heap.size /\ bl + 1 ≤ BF /\ bc + 1 ≤ bl /\ bj + 2 ≤ bc) := Lib.hid ⟨hBF, by rw [hBF, HBLS.out.1]; exact Nat.le_refl _, HBLS.out.2.2, HBS.out.1⟩
     clear hBF z3
     go_loopw [84] (fun ix wr => ∃ (q m : Nat) (pv : Value), q ≤ nI /\ ix = .int .i64 q /\ Hid (m = min q nQ) /\ Hid (Blk wr (bj + 1) 29 #[.slice A1 j c1, .string ⟨#[]⟩, .string ⟨#[]⟩, .slice A4 nK c4, pv, .slice A5 n5 c5, .slice A6 n6 c6, .slice none 0 0, .slice none 0 0]) /\ Hid (wr.ownsRow BF 99 2 pv m (px ((lb.1.keys.zip (textsJ lb)).take q))) /\ Hid (Kp BF (fun b => b = bj + 1) wJ wr)) (fun ix _ => nI - (intOf ix).toNat)
     case atStart => exact ⟨0, 0, _, by omega, rfl, Lib.hid (by omega), HBIJ, Lib.hid (World.ownsRow_nil _ _ _ _), Lib.hid (Kp.refl _ _ _)⟩
     case round =>
       clear HBIJ
       obtain ⟨q, m, pv, hq, rfl, HMQ, HBI, HO, HK⟩ := hrel
       by_cases hqI : q < nI
       . have hkp : ∀ p : Addr, S7 p.block -> wr.cell? p = wJ.cell? p := fun p hp => HK.out.cell (by have := HS7J.out _ hp; have := HBF.out; omega) (by have := HS7J.out _ hp; have := HBF.out; omega)
         obtain ⟨ad, rfl, hab, hcs⟩ := ((HRIJ.out.kept hkp).reads (B := wr.heap.size) (fun b hb => by have := HS7J.out _ hb; have := HBF.out; have := HK.out.size; omega)).2 (by omega)
         obtain ⟨h0, kk, he, _, htv⟩ := (HTRJ.out.kept hkp).at_ (i := q) (by have := HNI.out.1; omega)
         obtain ⟨AX, cX, AY, cY, us2, ecs, _⟩ := htv
         obtain ⟨cc0, cc1, cc2, cc3, cc4⟩ := cells5 hcs ecs
         have HTX : Hid ((textsJ lb)[q]? = some h0.text) := Lib.hid (by unfold textsJ; rw [List.getElem?_map, he]; rfl)
         have HBLr : Hid (Blk wr bl 54 #[.int .i64 lb.1.kind, .int .i64 lb.1.num, .string ⟨lb.1.text.toArray⟩, .slice (some ad) nI c7, .slice A8 nQ c8]) := Lib.hid (HK.out.blk HBL.out (by have := HBF.out; omega) (by have := HBF.out; omega))
         clear ecs hcs hab he hkp
         go_upto_region 18 with fail
         obtain ⟨wa, hwa⟩ : ∃ wa, wa = wr.alloc (.cells #[.int .i64 h0.kind, .int .i64 h0.num, .string ⟨h0.text.toArray⟩, .slice AX kk.len cX, .slice AY h0.keys.length cY] 54) := ⟨_, rfl⟩
         obtain ⟨bt, hbt⟩ : ∃ bt, bt = wr.heap.size := ⟨_, rfl⟩
         have hb1 : Below wr.heap.size wr wa := by rw [hwa]; exact (Below.refl _ _).alloc (Nat.le_refl _) _
         have HBT : Hid (Blk wa bt 54 #[.int .i64 h0.kind, .int .i64 h0.num, .string ⟨h0.text.toArray⟩, .slice AX kk.len cX, .slice AY h0.keys.length cY]) := Lib.hid (by rw [hwa, hbt]; exact Blk.new _ _ _)
         have HBTS : Hid (BF ≤ bt /\ wa.heap.size = bt + 1) := Lib.hid (by rw [hwa, hbt]; exact ⟨by have := HK.out.size; have := HBF.out.1; omega, by simp⟩)
         have HBIa := Lib.hid (HBI.out.below hb1 HBI.out.lt)
         have HBLa := Lib.hid (HBLr.out.below hb1 HBLr.out.lt)
         have HOa := Lib.hid (own_kept HO.out hb1)
         have HKa : Hid (Kp BF (fun b => b = bj + 1) wJ wa) := Lib.hid (HK.out.step hb1 (by rw [<- hbt]; exact HBTS.out.1))
         rw [<- hwa, <- hbt]
         clear hwa hbt hb1 cc0 cc1 cc2 cc3 cc4 HBI HBLr HO HK
         have z4 := HBLa.out.cell 4
         have hqn : q ≤ 4194304 := by have := HNI.out; omega
         by_cases hqk : q < nQ
         . obtain rfl : m = q := by have := HMQ.out; omega
           have hlk2 : m < lb.1.keys.length := by have := HNI.out.2.1; omega
           obtain ⟨kad, uk, rfl, hkb, huk, hck⟩ := ((HRKJ.out.kept (w' := wa) fun p hp => HKa.out.cell (by have := hp.2; have := HBF.out; omega) (by have := hp.1; have := HBF.out; omega)).reads (B := BF) (fun b hb => by have := hb.2; have := HBF.out; omega)).at_ hqk
           have hxu := tx_get huk hlk2
           subst hxu
           have HZ : Hid ((lb.1.keys.zip (textsJ lb)).take (m + 1) = (lb.1.keys.zip (textsJ lb)).take m ++ [(lb.1.keys.getD m [], h0.text)]) := Lib.hid (by
             rw [List.take_add_one]
             congr 1
             rw [(List.getElem?_zip_eq_some (z := (lb.1.keys.getD m [], h0.text))).2 ⟨(by rw [List.getElem?_eq_getElem hlk2, List.getD, List.getElem?_eq_getElem hlk2]; rfl : lb.1.keys[m]? = some (lb.1.keys.getD m [])), HTX.out⟩]; rfl)
           generalize lb.1.keys.getD m [] = kx at hck huk HZ
           obtain ⟨A9, c9, epv, _⟩ := own_readsN HOa.out
           subst epv
           have HSS : Hid (∀ wy, Blk wy (bj + 1) 29 #[.slice A1 j c1, .string ⟨#[]⟩, .string ⟨#[]⟩, .slice A4 nK c4, .slice A9 m c9, .slice A5 n5 c5, .slice A6 n6 c6, .slice none 0 0, .slice none 0 0] -> Blk wy bl 54 #[.int .i64 lb.1.kind, .int .i64 lb.1.num, .string ⟨lb.1.text.toArray⟩, .slice (some ad) nI c7, .slice (some kad) nQ c8] -> wy.cell? (kad.add m) = some (.string ⟨kx.toArray⟩) -> Blk wy bt 54 #[.int .i64 h0.kind, .int .i64 h0.num, .string ⟨h0.text.toArray⟩, .slice AX kk.len cX, .slice AY h0.keys.length cY] -> wy.cell? ⟨bj + 1, 4, none⟩ = some (.slice A9 m c9) /\ wy.cell? ⟨bl, 4, none⟩ = some (.slice (some kad) nQ c8) /\ wy.cell? (kad.add m) = some (.string ⟨kx.toArray⟩) /\ wy.cell? ⟨bt, 2, none⟩ = some (.string ⟨h0.text.toArray⟩)) := Lib.hid (fun wy h1 h2 h3 h4 => ⟨h1.cell 4, h2.cell 4, h3, h4.cell 2⟩)
           have HCK := Lib.hid hck
           have HKB := Lib.hid hkb
           clear huk hkb hlk2
           go_upto_region 19 with fail
           clear z4 hck
           refine wp_region_R (S := (fun wy => wy.cell? ⟨bj + 1, 4, none⟩ = some (.slice A9 m c9) /\ wy.cell? ⟨bl, 4, none⟩ = some (.slice (some kad) nQ c8) /\ wy.cell? (kad.add m) = some (.string ⟨kx.toArray⟩) /\ wy.cell? ⟨bt, 2, none⟩ = some (.string ⟨h0.text.toArray⟩))) 15 (by kernel_rfl) (HSS.out _ HBIa.out HBLa.out HCK.out HBT.out) (fun hHeld => ?_)
           refine tkC 0 (hS := hHeld) (h := ?_)
           try simp only [Act.put, List.setIfInBounds_toArray, List.set_cons_zero, List.set_cons_succ]
           refine tkC 1 (hS := hHeld) (h := ?_)
           try simp only [Act.put, List.setIfInBounds_toArray, List.set_cons_zero, List.set_cons_succ]
           refine tkC 2 (hS := hHeld) (h := ?_)
           try simp only [Act.put, List.setIfInBounds_toArray, List.set_cons_zero, List.set_cons_succ]
           refine tkC 3 (hS := hHeld) (h := ?_)
           try simp only [Act.put, List.setIfInBounds_toArray, List.set_cons_zero, List.set_cons_succ]
           refine tkC 4 (hS := hHeld) (h := ?_)
           try simp only [Act.put, List.setIfInBounds_toArray, List.set_cons_zero, List.set_cons_succ]
           refine tkC 5 (hS := hHeld) (h := ?_)
           try simp only [Act.put, List.setIfInBounds_toArray, List.set_cons_zero, List.set_cons_succ]
           refine tkC 6 (hS := hHeld) (h := ?_)
           try simp only [Act.put, List.setIfInBounds_toArray, List.set_cons_zero, List.set_cons_succ]
           refine tkC 7 (hS := hHeld) (h := ?_)
           try simp only [Act.put, List.setIfInBounds_toArray, List.set_cons_zero, List.set_cons_succ]
           refine tkC 8 (hS := hHeld) (h := ?_)
           try simp only [Act.put, List.setIfInBounds_toArray, List.set_cons_zero, List.set_cons_succ]
           refine tkC 9 (hS := hHeld) (h := ?_)
           try simp only [Act.put, List.setIfInBounds_toArray, List.set_cons_zero, List.set_cons_succ]
           refine tkC 10 (hS := hHeld) (h := ?_)
           try simp only [Act.put, List.setIfInBounds_toArray, List.set_cons_zero, List.set_cons_succ]
           refine oneR 11 (fun K hK => ?_)
           rw [if_pos (by rfl)]
           go_simp
           obtain ⟨wq, hwq⟩ : ∃ wq, wq = (wa.alloc (.cells #[.string ⟨kx.toArray⟩, .string ⟨h0.text.toArray⟩] 99)).drew := ⟨_, rfl⟩
           have hbq : Below wa.heap.size wa wq := by rw [hwq]; exact ((Below.refl wa.heap.size wa).alloc (Nat.le_refl _) _).drew
           have HG : Hid (wq.heap[wa.heap.size]? = some (.cells #[.string ⟨kx.toArray⟩, .string ⟨h0.text.toArray⟩] 99) /\ wq.heap.size = wa.heap.size + 1) := Lib.hid (by rw [hwq]; exact ⟨heap_alloc_new _ _, by simp⟩)
           have HBIq := Lib.hid (HBIa.out.below hbq HBIa.out.lt)
           have HBLq := Lib.hid (HBLa.out.below hbq HBLa.out.lt)
           have HBTq := Lib.hid (HBT.out.below hbq HBT.out.lt)
           have HCKq : Hid (wq.cell? (kad.add m) = some (.string ⟨kx.toArray⟩)) := Lib.hid ((hbq.cell (by rw [block_of_add]; have := HKB.out; have := HBTS.out; omega)).trans HCK.out)
           have HOq := Lib.hid (own_kept HOa.out hbq)
           have HKq : Hid (Kp BF (fun b => b = bj + 1) wJ wq /\ BF ≤ wq.heap.size) := Lib.hid ⟨HKa.out.step hbq (by have := HBTS.out; omega), by have := HBTS.out; have := HG.out.2; omega⟩
           (try rw [<- hwq])
           refine hK.out _ _ (fun _ => by (try rw [<- hwq]); exact HSS.out _ HBIq.out HBLq.out HCKq.out HBTq.out) (fun _ => ?_)
           clear hK hbq hHeld
           (try rw [<- hwq])
           clear hwq HBIa HBLa HBT HCK HOa HKa
           try simp only [Act.put, List.setIfInBounds_toArray, List.set_cons_zero, List.set_cons_succ]
           refine oneR 12 (fun K hK => ?_)
           rw [if_pos (by rfl)]
           refine wp_append_any (P := Tryz.prog) _ _ _ 22 rfl BF 99 p0 _ 2 32 Tryz.underlying22 hpI py0 py1 py2 rfl (by decide) (.slice A9 m c9) m _ rfl HOq.out wq.heap.size (some ⟨wa.heap.size, 0, none⟩) 1 1 [.string ⟨kx.toArray⟩, .string ⟨h0.text.toArray⟩] rfl (Reads.of_block HG.out.1 rfl) (by intro u hu; simp only [List.mem_cons, List.not_mem_nil, or_false] at hu; rcases hu with rfl | rfl <;> rfl) (by unfold maxLen; omega) (by omega) HKq.out.2 ?_
           intro v2 wv g1 g2 g3
           obtain ⟨A3, c3, e3, _⟩ := own_readsN g1
           subst e3
           have HOv : Hid (wv.ownsRow BF 99 2 (.slice A3 (m + 1) c3) (m + 1) (px ((lb.1.keys.zip (textsJ lb)).take (m + 1)))) := Lib.hid (by rw [HZ.out, px_append]; exact g1)
           have HBIv := Lib.hid (HBIq.out.grown g2 (fun e => by have := (own_lt HOq.out e.symm).1; have := HBF.out; omega))
           have HBLv := Lib.hid (HBLq.out.grown g2 (fun e => by have := (own_lt HOq.out e.symm).1; have := HBF.out; omega))
           have HBTv := Lib.hid (HBTq.out.grown g2 (fun e => own_blk_ne HOq.out HBTq.out (by decide) e.symm))
           have HCKv : Hid (wv.cell? (kad.add m) = some (.string ⟨kx.toArray⟩)) := Lib.hid ((World.cell?_of_block (g2.block (kad.add m).block (by rw [block_of_add]; have := HKB.out; have := HKq.out.2; omega) (fun e => by rw [block_of_add] at e; have := (own_lt HOq.out e.symm).1; have := HKB.out; omega))).trans HCKq.out)
           have HKv : Hid (Kp BF (fun b => b = bj + 1) wJ wv) := Lib.hid (HKq.out.1.grown g2 HKq.out.2 (fun g e => .inl (own_lt HOq.out e).1))
           refine hK.out _ _ (fun _ => HSS.out _ HBIv.out HBLv.out HCKv.out HBTv.out) (fun _ => ?_)
           clear hK g1 g2 g3 HBIq HBLq HBTq HCKq HOq HKq HG
           try simp only [Act.put, List.setIfInBounds_toArray, List.set_cons_zero, List.set_cons_succ]
           refine tkC 13 (hS := HSS.out _ HBIv.out HBLv.out HCKv.out HBTv.out) (h := ?_)
           try simp only [Act.put, List.setIfInBounds_toArray, List.set_cons_zero, List.set_cons_succ]
           refine tkC 14 (hS := HSS.out _ HBIv.out HBLv.out HCKv.out HBTv.out) (h := ?_)
           try simp only [Act.put, List.setIfInBounds_toArray, List.set_cons_zero, List.set_cons_succ]
           have k4 := HBIv.out.cell 4
           have l4 := HBIv.out.frozen 4
           refine oneR 15 (fun K hK => ?_)
           rw [if_pos (by rfl)]
           go_simp
           refine hK.out _ _ (fun h => absurd rfl h) (fun _ => ?_)
           clear hK k4 l4
           try simp only [Act.put]
           refine wpAnyR_done (by kernel_rfl) ?_ _
           have HMM : Hid (m + 1 = min (m + 1) nQ) := Lib.hid (by omega)
           go_wp2_with fail
           refine ⟨⟨m + 1, m + 1, .slice A3 (m + 1) c3, by omega, by push_cast; rfl, HMM, Lib.hid (HBIv.out.set_ 4 _), Lib.hid ?_, Lib.hid (Kp.setCell (X := fun b => b = bj + 1) (p := ⟨bj + 1, 4, none⟩) HKv.out (.inr rfl) _)⟩, ?_⟩
           . exact own_at HOv.out fun b hb => Below.heap_setCell wv ⟨bj + 1, 4, none⟩ _ b (by show b ≠ bj + 1; have := (own_lt HOv.out hb).1; have := HBF.out; omega)
           . show nI - ((m : Int) + 1).toNat < nI - ((m : Int)).toNat
             omega
         . clear HTX HBT
           go_wp2_with fail
           refine ⟨⟨q + 1, m, pv, by omega, by push_cast; rfl, Lib.hid (by have := HMQ.out; omega), HBIa, Lib.hid ?_, HKa⟩, ?_⟩
           . have hz : (lb.1.keys.zip (textsJ lb)).length ≤ q := by rw [List.length_zip]; have := HNI.out.2.1; omega
             have h1 := HOa.out
             rw [List.take_of_length_le hz] at h1
             rw [List.take_of_length_le (by omega)]
             exact h1
           . show nI - ((q : Int) + 1).toNat < nI - ((q : Int)).toNat
             omega
       . obtain rfl : q = nI := by omega
         obtain ⟨wK, hwK⟩ : ∃ wK, wK = wr := ⟨_, rfl⟩
         subst hwK
         have hz : (lb.1.keys.zip (textsJ lb)).length = m := by
           have e1 : (textsJ lb).length = q := by unfold textsJ; rw [List.length_map, toL_len]; exact HNI.out.1.symm
           rw [List.length_zip, e1, HMQ.out, HNI.out.2.1]; omega
         rw [List.take_of_length_le (by have := HMQ.out; omega)] at HO
         obtain ⟨A3, c3, epv, _⟩ := own_readsN HO.out
         subst epv
         have HZ3 := Lib.hid hz
         have HKK : Hid (Kp (bc + 1) (fun b => b = bj + 1) w4 wK) := Lib.hid (HKJ.out.trans (HK.out.mono (by have := HBF.out; omega) (fun _ _ e => e)))
         have HLK3 : Hid (Lad wK (bc + 1) wK.heap.size [⟨9, 1, .slice A5 n5 c5, n5, tx l5⟩, ⟨9, 1, .slice A6 n6 c6, n6, tx l6⟩, ⟨99, 2, .slice A1 j c1, j, px (le.map cutE)⟩, ⟨9, 1, .slice A4 nK c4, nK, tx lk⟩, ⟨99, 2, .slice A3 m c3, m, px (lb.1.keys.zip (textsJ lb))⟩]) := Lib.hid (by
           have h1 : Lad wJ (bc + 1) BF [⟨9, 1, .slice A5 n5 c5, n5, tx l5⟩, ⟨9, 1, .slice A6 n6 c6, n6, tx l6⟩, ⟨99, 2, .slice A1 j c1, j, px (le.map cutE)⟩, ⟨9, 1, .slice A4 nK c4, nK, tx lk⟩] := by rw [HBF.out.1]; exact HLJ.out
           exact (h1.kp HK.out (Nat.le_refl _) (fun b e => by have := HBS.out; omega)).push HO.out (by rw [HBF.out.1]; exact HK.out.size) (Nat.le_refl _))
         clear hz HO HK HKJ HLJ HMQ HRKJ HRIJ HTRJ HS7J HBF HBLS HBL
         go_upto_region 21 with fail
         refine wp_region_held_drew (S := (fun wy => wy.rangeAt bc 0 (#[.int .i64 c.1.kind, .int .i64 c.1.num, .string ⟨c.1.text.toArray⟩, jv, jk] : Array Value).toList)) (by kernel_rfl) (HRC.out _ (HFR.out _ HKK.out).1) (fun hHeld => ?_)
         refine wpAnyH_take (i := 0) (by simp only [List.getElem?_toArray, List.getElem?_cons_zero]; rfl) (by kernel_rfl) (by kernel_rfl) (by kernel_rfl) (by exact fun _ _ _ h => h) (yieldsIf_load_mid (by rfl) _ _ rfl _ _ rfl (#[.int .i64 c.1.kind, .int .i64 c.1.num, .string ⟨c.1.text.toArray⟩, jv, jk] : Array Value).toList _ (fun _ h => h) Tryz.underlying54 rfl (by kernel_rfl)) hHeld ?_
         try simp only [Act.put, List.setIfInBounds_toArray, List.set_cons_zero, List.set_cons_succ]
         refine wpAnyH_take (i := 3) (by simp only [List.getElem?_toArray, List.getElem?_cons_succ, List.getElem?_cons_zero]; rfl) (by kernel_rfl) (by kernel_rfl) (by kernel_rfl) (by exact fun _ _ _ h => h) (yieldsIf_load_mid (by rfl) _ _ rfl _ _ rfl (#[.int .i64 c.1.kind, .int .i64 c.1.num, .string ⟨c.1.text.toArray⟩, jv, jk] : Array Value).toList _ (fun _ h => h) Tryz.underlying54 rfl (by kernel_rfl)) hHeld ?_
         try simp only [Act.put, List.setIfInBounds_toArray, List.set_cons_zero, List.set_cons_succ]
         refine wpAnyH_ready (rs := [1]) (by kernel_rfl) (by simp) ?_
         refine rdy (fun K hK => ?_) AllReadyH.nil
         rw [if_pos (by rfl)]
         go_simp
         refine (HAC.out _ HKK.out.drew kUser).mono ?_
         rintro y wL ⟨jU, kU, rfl, hvL, hL⟩
         have hL : Below wK.heap.size wK wL := ((Below.refl wK.heap.size wK).drew).trans hL
         obtain ⟨hU, hhU⟩ : ∃ hU, hU = (atJ c kUser).1 := ⟨_, rfl⟩
         have HU := Lib.hid hhU
         rw [<- hhU]
         have HKL : Hid (Kp (bc + 1) (fun b => b = bj + 1) w4 wL) := Lib.hid (HKK.out.step hL (by have := HBS.out; have := HKK.out.size; omega))
         have HBIL := Lib.hid (HBI.out.below hL HBI.out.lt)
         have HLL := Lib.hid (HLK3.out.below hL)
         refine hK.out _ _ (HRC.out _ (HFR.out _ HKL.out).1) (fun _ => ?_)
         clear hK hvL hL hHeld hhU HBI HKK HLK3
         try simp only [Act.put, List.setIfInBounds_toArray, List.set_cons_zero, List.set_cons_succ]
         have hf2 := run_json2
         refine tk 2 (hS := HRC.out _ (HFR.out _ HKL.out).1) (h := ?_)
         try simp only [Act.put, List.setIfInBounds_toArray, List.set_cons_zero, List.set_cons_succ]
         refine tk 6 (hS := HRC.out _ (HFR.out _ HKL.out).1) (h := ?_)
         try simp only [Act.put, List.setIfInBounds_toArray, List.set_cons_zero, List.set_cons_succ]
         refine tk 7 (hS := HRC.out _ (HFR.out _ HKL.out).1) (h := ?_)
         try simp only [Act.put, List.setIfInBounds_toArray, List.set_cons_zero, List.set_cons_succ]
         refine wpAnyH_ready (rs := [4]) (by kernel_rfl) (by simp) ?_
         refine rdy (fun K hK => ?_) AllReadyH.nil
         rw [if_pos (by rfl)]
         go_simp
         refine (HAC.out _ HKL.out kDir).mono ?_
         rintro y wM ⟨jD, kD, rfl, hvM, hM⟩
         obtain ⟨hD, hhD⟩ : ∃ hD, hD = (atJ c kDir).1 := ⟨_, rfl⟩
         have HDD := Lib.hid hhD
         rw [<- hhD]
         have HKM : Hid (Kp (bc + 1) (fun b => b = bj + 1) w4 wM) := Lib.hid (HKL.out.step hM (by have := HBS.out; have := HKL.out.size; omega))
         have HBIM := Lib.hid (HBIL.out.below hM HBIL.out.lt)
         have HLM := Lib.hid (HLL.out.below hM)
         refine hK.out _ _ (HRC.out _ (HFR.out _ HKM.out).1) (fun _ => ?_)
         clear hK hvM hM hhD HBIL HKL HLL
         try simp only [Act.put, List.setIfInBounds_toArray, List.set_cons_zero, List.set_cons_succ]
         refine tk 5 (hS := HRC.out _ (HFR.out _ HKM.out).1) (h := ?_)
         try simp only [Act.put, List.setIfInBounds_toArray, List.set_cons_zero, List.set_cons_succ]
         clear hf2
         have k2 := HBIM.out.cell 2
         have l2 := HBIM.out.frozen 2
         refine wpAnyH_ready (rs := [8]) (by kernel_rfl) (by simp) ?_
         refine rdy (fun K hK => ?_) AllReadyH.nil
         rw [if_pos (by rfl)]
         go_simp
         obtain ⟨wN, hwN⟩ : ∃ wN, wN = wM.setCell ⟨bj + 1, 2, none⟩ (.string ⟨hU.text.toArray⟩) := ⟨_, rfl⟩
         have HBIN : Hid (Blk wN (bj + 1) 29 #[.slice A1 j c1, .string ⟨#[]⟩, .string ⟨hU.text.toArray⟩, .slice A4 nK c4, .slice A3 m c3, .slice A5 n5 c5, .slice A6 n6 c6, .slice none 0 0, .slice none 0 0]) := Lib.hid (by rw [hwN]; exact HBIM.out.set_ 2 _)
         have HKN : Hid (Kp (bc + 1) (fun b => b = bj + 1) w4 wN) := Lib.hid (by rw [hwN]; exact Kp.setCell (X := fun b => b = bj + 1) (p := ⟨bj + 1, 2, none⟩) HKM.out (.inr rfl) _)
         have HLN : Hid (Lad wN (bc + 1) wN.heap.size [⟨9, 1, .slice A5 n5 c5, n5, tx l5⟩, ⟨9, 1, .slice A6 n6 c6, n6, tx l6⟩, ⟨99, 2, .slice A1 j c1, j, px (le.map cutE)⟩, ⟨9, 1, .slice A4 nK c4, nK, tx lk⟩, ⟨99, 2, .slice A3 m c3, m, px (lb.1.keys.zip (textsJ lb))⟩]) := Lib.hid (by rw [hwN, World.size_setCell]; exact HLM.out.set (p := ⟨bj + 1, 2, none⟩) (by show bj + 1 < bc + 1; have := HBS.out; omega) _)
         rw [<- hwN]
         refine hK.out _ _ (HRC.out _ (HFR.out _ HKN.out).1) (fun _ => ?_)
         clear hK hwN k2 l2 HBIM HKM HLM
         try simp only [Act.put, List.setIfInBounds_toArray, List.set_cons_zero, List.set_cons_succ]
         refine tk 9 (hS := HRC.out _ (HFR.out _ HKN.out).1) (h := ?_)
         try simp only [Act.put, List.setIfInBounds_toArray, List.set_cons_zero, List.set_cons_succ]
         refine tk 10 (hS := HRC.out _ (HFR.out _ HKN.out).1) (h := ?_)
         try simp only [Act.put, List.setIfInBounds_toArray, List.set_cons_zero, List.set_cons_succ]
         have k1 := HBIN.out.cell 1
         have l1 := HBIN.out.frozen 1
         refine wpAnyH_ready (rs := [11]) (by kernel_rfl) (by simp) ?_
         refine rdy (fun K hK => ?_) AllReadyH.nil
         rw [if_pos (by rfl)]
         go_simp
         obtain ⟨wO, hwO⟩ : ∃ wO, wO = wN.setCell ⟨bj + 1, 1, none⟩ (.string ⟨hD.text.toArray⟩) := ⟨_, rfl⟩
         have HBIO : Hid (Blk wO (bj + 1) 29 #[.slice A1 j c1, .string ⟨hD.text.toArray⟩, .string ⟨hU.text.toArray⟩, .slice A4 nK c4, .slice A3 m c3, .slice A5 n5 c5, .slice A6 n6 c6, .slice none 0 0, .slice none 0 0]) := Lib.hid (by rw [hwO]; exact HBIN.out.set_ 1 _)
         have HKO : Hid (Kp (bc + 1) (fun b => b = bj + 1) w4 wO) := Lib.hid (by rw [hwO]; exact Kp.setCell (X := fun b => b = bj + 1) (p := ⟨bj + 1, 1, none⟩) HKN.out (.inr rfl) _)
         have HLO : Hid (Lad wO (bc + 1) wO.heap.size [⟨9, 1, .slice A5 n5 c5, n5, tx l5⟩, ⟨9, 1, .slice A6 n6 c6, n6, tx l6⟩, ⟨99, 2, .slice A1 j c1, j, px (le.map cutE)⟩, ⟨9, 1, .slice A4 nK c4, nK, tx lk⟩, ⟨99, 2, .slice A3 m c3, m, px (lb.1.keys.zip (textsJ lb))⟩]) := Lib.hid (by rw [hwO, World.size_setCell]; exact HLN.out.set (p := ⟨bj + 1, 1, none⟩) (by show bj + 1 < bc + 1; have := HBS.out; omega) _)
         rw [<- hwO]
         refine hK.out _ _ (HRC.out _ (HFR.out _ HKO.out).1) (fun _ => ?_)
         clear hK hwO k1 l1 HBIN HKN HLN
         try simp only [Act.put]
         refine wpAnyH_done (by kernel_rfl) ?_ _
         have hq := (HFR.out wO HKO.out).2.1
         have x0 := hq.cell 0
         have x1 := hq.cell 1
         have x2 := hq.cell 2
         have x3 := hq.cell 3
         have x4 := hq.cell 4
         clear hq
         go_upto_region 23 with fail
         refine (HAT.out wO (HFR.out wO HKO.out).2.2.2.2 kHist).mono ?_
         rintro x wP ⟨jH, kH, rfl, hvP, hP⟩
         obtain ⟨q, hq⟩ : ∃ q, q = atJ (h, k) kHist := ⟨_, rfl⟩
         have HQ : Hid (q = atJ (h, k) kHist /\ Gd q) := Lib.hid ⟨hq, by rw [hq]; exact HGD.out.at _⟩
         rw [<- hq] at hvP ⊢
         obtain ⟨A8, c8, ekH, _⟩ := keys_vt hvP
         obtain ⟨A7, c7, us7, S7, ejH, hri, htri, hS7⟩ := items_vt hvP
         subst ekH ejH
         obtain ⟨nH, hnH⟩ : ∃ nH, nH = q.2.len := ⟨_, rfl⟩
         have HNH : Hid (nH = q.2.len /\ nH ≤ 4194304) := Lib.hid ⟨hnH, by rw [hnH]; exact HQ.out.2.len⟩
         rw [<- hnH] at hri ⊢
         have HKP : Hid (Kp (bc + 1) (fun b => b = bj + 1) w4 wP) := Lib.hid (HKO.out.step hP (by have := HBS.out; have := HKO.out.size; omega))
         have HRI := Lib.hid hri
         have HTRI := Lib.hid htri
         have HBIP := Lib.hid (HBIO.out.below hP HBIO.out.lt)
         have HLP := Lib.hid (HLO.out.below hP)
         obtain ⟨BG, hBG⟩ : ∃ BG, BG = wP.heap.size := ⟨_, rfl⟩
         have HBG : Hid (BG = wP.heap.size /\ bc + 1 ≤ BG /\ bj + 2 ≤ bc) := Lib.hid ⟨hBG, by rw [hBG]; have := HKP.out.size; have := HBS.out; omega, HBS.out.1⟩
         have HS7 : Hid (∀ b, S7 b -> bc + 1 ≤ b /\ b < BG) := Lib.hid (fun b hb => by have h1 := hS7 b hb; have h2 := HKO.out.size; have h3 := HBS.out; omega)
         clear hvP hP hri htri hS7 hq hnH hBG x0 x1 x2 x3 x4 HBIO HKO HLO
         have hf3 := run_json3
         go_upto_region 23 with fail
         clear hf3
         obtain ⟨q0, hqI, qy0, qy1, qy2⟩ := info_parts infoPast
         go_loopw [124] (fun ix wr => ∃ (p : Nat) (pv : Value), p ≤ nH /\ ix = .int .i64 p /\ Hid (Blk wr (bj + 1) 29 #[.slice A1 j c1, .string ⟨hD.text.toArray⟩, .string ⟨hU.text.toArray⟩, .slice A4 nK c4, .slice A3 m c3, .slice A5 n5 c5, .slice A6 n6 c6, pv, .slice none 0 0]) /\ Hid (wr.ownsRow BG 101 2 pv p (pastC (((toL q.2).take p).map exPast))) /\ Hid (Kp BG (fun b => b = bj + 1) wP wr)) (fun ix _ => nH - (intOf ix).toNat)
         case atStart => exact ⟨0, _, by omega, rfl, HBIP, Lib.hid (World.ownsRow_nil _ _ _ _), Lib.hid (Kp.refl _ _ _)⟩
         case round =>
           clear HBIP
           obtain ⟨p, pv, hp, rfl, HBI, HO, HK⟩ := hrel
           by_cases hpl : p < nH
           . have hkp : ∀ p : Addr, S7 p.block -> wr.cell? p = wP.cell? p := fun p hp => HK.out.cell (by have := HS7.out _ hp; omega) (by have := HS7.out _ hp; have := HBG.out; omega)
             obtain ⟨ad, rfl, hab, hcs⟩ := ((HRI.out.kept hkp).reads (B := wr.heap.size) (fun b hb => by have := HS7.out _ hb; have := HBG.out; have := HK.out.size; omega)).2 (by omega)
             obtain ⟨h0, kk, he, _, htv⟩ := (HTRI.out.kept hkp).at_ (i := p) (by have := HNH.out.1; omega)
             have HG0 : Hid (Gd (h0, kk)) := Lib.hid (HQ.out.2.kid he)
             have HTK : Hid (((toL q.2).take (p + 1)).map exPast = ((toL q.2).take p).map exPast ++ [exPast (h0, kk)]) := Lib.hid (by rw [List.take_add_one, he, List.map_append]; rfl)
             have htv1 := htv
             obtain ⟨AX, cX, AY, cY, us2, ecs, _⟩ := htv
             obtain ⟨cc0, cc1, cc2, cc3, cc4⟩ := cells5 hcs ecs
             have HTV : Hid (TV encJ wr S7 h0 kk (jcells h0 (.slice AX kk.len cX) (.slice AY h0.keys.length cY))) := Lib.hid (by rw [ecs] at htv1; exact htv1)
             clear ecs htv1 hcs hab he hkp
             go_upto_region 25 with fail
             obtain ⟨wa, hwa⟩ : ∃ wa, wa = wr.alloc (.cells #[.int .i64 h0.kind, .int .i64 h0.num, .string ⟨h0.text.toArray⟩, .slice AX kk.len cX, .slice AY h0.keys.length cY] 54) := ⟨_, rfl⟩
             obtain ⟨bt, hbt⟩ : ∃ bt, bt = wr.heap.size := ⟨_, rfl⟩
             have hb1 : Below wr.heap.size wr wa := by rw [hwa]; exact (Below.refl _ _).alloc (Nat.le_refl _) _
             have HBT : Hid (Blk wa bt 54 #[.int .i64 h0.kind, .int .i64 h0.num, .string ⟨h0.text.toArray⟩, .slice AX kk.len cX, .slice AY h0.keys.length cY]) := Lib.hid (by rw [hwa, hbt]; exact Blk.new _ _ _)
             have HBTS : Hid (BG ≤ bt /\ wa.heap.size = bt + 1) := Lib.hid (by rw [hwa, hbt]; exact ⟨by have := HK.out.size; have := HBG.out.1; omega, by simp⟩)
             have HBIa := Lib.hid (HBI.out.below hb1 HBI.out.lt)
             have HOa := Lib.hid (own_kept HO.out hb1)
             have HKa : Hid (Kp BG (fun b => b = bj + 1) wP wa) := Lib.hid (HK.out.step hb1 (by rw [<- hbt]; exact HBTS.out.1))
             have HAX : Hid (∀ wx, Below wa.heap.size wa wx -> ∀ key, Calls Tryz.prog 43 #[.agg #[.int .i64 h0.kind, .int .i64 h0.num, .string ⟨h0.text.toArray⟩, .slice AX kk.len cX, .slice AY h0.keys.length cY], .string ⟨key.toArray⟩] wx fun x w' =>
     ∃ jv jk, x = .returned (.agg #[.int .i64 (atJ (h0, kk) key).1.kind, .int .i64 (atJ (h0, kk) key).1.num, .string ⟨(atJ (h0, kk) key).1.text.toArray⟩, jv, jk]) /\ VT w' wx.heap.size (atJ (h0, kk) key) (jcells (atJ (h0, kk) key).1 jv jk).toArray /\ Below wx.heap.size wx w') := Lib.hid (fun wx hx key => by
               have ht : TV encJ wx S7 h0 kk (jcells h0 (.slice AX kk.len cX) (.slice AY h0.keys.length cY)) := (HTV.out.kept (w' := wa) fun p hp => hb1.cell (by have := HS7.out _ hp; have := HK.out.size; have := HBG.out; omega)).kept fun p hp => hx.cell (by have := HS7.out _ hp; have := HBTS.out; omega)
               exact at_any (h0, kk) _ _ key S7 wx ht (fun b hb => by have := HS7.out _ hb; have := HBTS.out; have := hx.size; omega) (by have := HG0.out.sz; simp only at this ⊢; omega) (by have := HG0.out.deep; simp only at this ⊢; omega))
             rw [<- hwa, <- hbt]
             clear hwa hbt hb1 cc0 cc1 cc2 cc3 cc4 HBI HO HK HTV
             obtain ⟨A9, c9, epv, _⟩ := own_readsN HOa.out
             subst epv
             have HSS : Hid (∀ wy, Blk wy (bj + 1) 29 #[.slice A1 j c1, .string ⟨hD.text.toArray⟩, .string ⟨hU.text.toArray⟩, .slice A4 nK c4, .slice A3 m c3, .slice A5 n5 c5, .slice A6 n6 c6, .slice A9 p c9, .slice none 0 0] -> Blk wy bt 54 #[.int .i64 h0.kind, .int .i64 h0.num, .string ⟨h0.text.toArray⟩, .slice AX kk.len cX, .slice AY h0.keys.length cY] -> wy.cell? ⟨bj + 1, 7, none⟩ = some (.slice A9 p c9) /\ wy.rangeAt bt 0 (#[.int .i64 h0.kind, .int .i64 h0.num, .string ⟨h0.text.toArray⟩, .slice AX kk.len cX, .slice AY h0.keys.length cY] : Array Value).toList) := Lib.hid (fun wy h1 h2 => ⟨h1.cell 7, fun jj v hv => by rw [Nat.zero_add, h2.cell]; simpa using hv⟩)
             have hpn : p ≤ 4194304 := by have := HNH.out; omega
             refine wp_region_R (S := (fun wy => wy.cell? ⟨bj + 1, 7, none⟩ = some (.slice A9 p c9) /\ wy.rangeAt bt 0 (#[.int .i64 h0.kind, .int .i64 h0.num, .string ⟨h0.text.toArray⟩, .slice AX kk.len cX, .slice AY h0.keys.length cY] : Array Value).toList)) 13 (by kernel_rfl) (HSS.out _ HBIa.out HBT.out) (fun hHeld => ?_)
             refine tkC 0 (hS := hHeld) (h := ?_)
             try simp only [Act.put, List.setIfInBounds_toArray, List.set_cons_zero, List.set_cons_succ]
             refine tkC 1 (hS := hHeld) (h := ?_)
             try simp only [Act.put, List.setIfInBounds_toArray, List.set_cons_zero, List.set_cons_succ]
             refine tkC 2 (hy := yieldsIf_load_mid (by rfl) _ _ rfl _ _ rfl (#[.int .i64 h0.kind, .int .i64 h0.num, .string ⟨h0.text.toArray⟩, .slice AX kk.len cX, .slice AY h0.keys.length cY] : Array Value).toList _ (fun _ h => h.2) Tryz.underlying54 rfl (by kernel_rfl)) (hS := hHeld) (h := ?_)
             try simp only [Act.put, List.setIfInBounds_toArray, List.set_cons_zero, List.set_cons_succ]
             refine tkC 5 (hy := yieldsIf_load_mid (by rfl) _ _ rfl _ _ rfl (#[.int .i64 h0.kind, .int .i64 h0.num, .string ⟨h0.text.toArray⟩, .slice AX kk.len cX, .slice AY h0.keys.length cY] : Array Value).toList _ (fun _ h => h.2) Tryz.underlying54 rfl (by kernel_rfl)) (hS := hHeld) (h := ?_)
             try simp only [Act.put, List.setIfInBounds_toArray, List.set_cons_zero, List.set_cons_succ]
             refine oneR 3 (fun K hK => ?_)
             rw [if_pos (by rfl)]
             go_simp
             refine (HAX.out _ ((Below.refl wa.heap.size wa).drew) kBy).mono ?_
             rintro y wb ⟨jB, kB, rfl, hvB, hB⟩
             have hB : Below wa.heap.size wa wb := ((Below.refl wa.heap.size wa).drew).trans hB
             obtain ⟨hy, hhy⟩ : ∃ hy, hy = (atJ (h0, kk) kBy).1 := ⟨_, rfl⟩
             have HY := Lib.hid hhy
             rw [<- hhy]
             have HWB := Lib.hid hB
             have HBIb := Lib.hid (HBIa.out.below hB HBIa.out.lt)
             have HBTb := Lib.hid (HBT.out.below hB HBT.out.lt)
             refine hK.out _ _ (fun _ => HSS.out _ HBIb.out HBTb.out) (fun _ => ?_)
             clear hK hvB hB hHeld hhy HBIa HBT
             try simp only [Act.put, List.setIfInBounds_toArray, List.set_cons_zero, List.set_cons_succ]
             have hf2 := run_json2
             refine tkC 4 (hS := HSS.out _ HBIb.out HBTb.out) (h := ?_)
             clear hf2
             try simp only [Act.put, List.setIfInBounds_toArray, List.set_cons_zero, List.set_cons_succ]
             refine oneR 6 (fun K hK => ?_)
             rw [if_pos (by rfl)]
             go_simp
             refine (HAX.out _ HWB.out kEmpty).mono ?_
             rintro y wd ⟨jB2, kB2, rfl, hvD, hD2⟩
             have hD3 : Below wa.heap.size wa wd := HWB.out.trans (hD2.mono HWB.out.size)
             obtain ⟨hz, hhz⟩ : ∃ hz, hz = (atJ (h0, kk) kEmpty).1 := ⟨_, rfl⟩
             have HZZ := Lib.hid hhz
             rw [<- hhz]
             have HBId := Lib.hid (HBIb.out.below hD2 HBIb.out.lt)
             have HBTd := Lib.hid (HBTb.out.below hD2 HBTb.out.lt)
             have HOd := Lib.hid (own_kept HOa.out hD3)
             have HKd : Hid (Kp BG (fun b => b = bj + 1) wP wd /\ BG ≤ wd.heap.size) := Lib.hid ⟨HKa.out.step hD3 (by have := HBTS.out; omega), by have := hD3.size; have := HBTS.out; omega⟩
             refine hK.out _ _ (fun _ => HSS.out _ HBId.out HBTd.out) (fun _ => ?_)
             clear hK hvD hD2 hD3 hhz HBIb HBTb HOa HKa HWB HAX
             try simp only [Act.put, List.setIfInBounds_toArray, List.set_cons_zero, List.set_cons_succ]
             have hf0 := run_json0
             refine tkC 7 (hS := HSS.out _ HBId.out HBTd.out) (h := ?_)
             clear hf0
             try simp only [Act.put, List.setIfInBounds_toArray, List.set_cons_zero, List.set_cons_succ]
             refine tkC 8 (hS := HSS.out _ HBId.out HBTd.out) (h := ?_)
             try simp only [Act.put, List.setIfInBounds_toArray, List.set_cons_zero, List.set_cons_succ]
             refine tkC 9 (hS := HSS.out _ HBId.out HBTd.out) (h := ?_)
             try simp only [Act.put, List.setIfInBounds_toArray, List.set_cons_zero, List.set_cons_succ]
             refine oneR 10 (fun K hK => ?_)
             rw [if_pos (by rfl)]
             go_simp
             obtain ⟨wq, hwq⟩ : ∃ wq, wq = wd.alloc (.cells #[.string ⟨hy.text.toArray⟩, .bool (hz.kind == 2)] 101) := ⟨_, rfl⟩
             have hbq : Below wd.heap.size wd wq := by rw [hwq]; exact (Below.refl _ _).alloc (Nat.le_refl _) _
             have HG : Hid (wq.heap[wd.heap.size]? = some (.cells #[.string ⟨hy.text.toArray⟩, .bool (hz.kind == 2)] 101) /\ wq.heap.size = wd.heap.size + 1) := Lib.hid (by rw [hwq]; exact ⟨heap_alloc_new _ _, by simp⟩)
             have HBIq := Lib.hid (HBId.out.below hbq HBId.out.lt)
             have HBTq := Lib.hid (HBTd.out.below hbq HBTd.out.lt)
             have HOq := Lib.hid (own_kept HOd.out hbq)
             have HKq : Hid (Kp BG (fun b => b = bj + 1) wP wq /\ BG ≤ wq.heap.size) := Lib.hid ⟨HKd.out.1.step hbq HKd.out.2, by have := HKd.out.2; have := HG.out.2; omega⟩
             (try rw [<- hwq])
             refine hK.out _ _ (fun _ => by (try rw [<- hwq]); exact HSS.out _ HBIq.out HBTq.out) (fun _ => ?_)
             clear hK hbq
             (try rw [<- hwq])
             clear hwq HBId HBTd HOd HKd
             try simp only [Act.put, List.setIfInBounds_toArray, List.set_cons_zero, List.set_cons_succ]
             refine oneR 11 (fun K hK => ?_)
             rw [if_pos (by rfl)]
             refine wp_append_any (P := Tryz.prog) _ _ _ 26 rfl BG 101 q0 _ 2 24 Tryz.underlying26 hqI qy0 qy1 qy2 rfl (by decide) (.slice A9 p c9) p _ rfl HOq.out wq.heap.size (some ⟨wd.heap.size, 0, none⟩) 1 1 [.string ⟨hy.text.toArray⟩, .bool (hz.kind == 2)] rfl (Reads.of_block HG.out.1 rfl) (by intro u hu; simp only [List.mem_cons, List.not_mem_nil, or_false] at hu; rcases hu with rfl | rfl <;> rfl) (by unfold maxLen; omega) (by omega) HKq.out.2 ?_
             intro v2 wv g1 g2 g3
             obtain ⟨A2, c2, e3, _⟩ := own_readsN g1
             subst e3
             have HOv : Hid (wv.ownsRow BG 101 2 (.slice A2 (p + 1) c2) (p + 1) (pastC (((toL q.2).take (p + 1)).map exPast))) := Lib.hid (by
               rw [HTK.out, pastC_snoc]
               have e : exPast (h0, kk) = (hy.text, (hz.kind == 2)) := by rw [HY.out, HZZ.out]; rfl
               rw [e]; exact g1)
             have HBIv := Lib.hid (HBIq.out.grown g2 (fun e => by have := (own_lt HOq.out e.symm).1; have := HBG.out; omega))
             have HBTv := Lib.hid (HBTq.out.grown g2 (fun e => own_blk_ne HOq.out HBTq.out (by decide) e.symm))
             have HKv : Hid (Kp BG (fun b => b = bj + 1) wP wv) := Lib.hid (HKq.out.1.grown g2 HKq.out.2 (fun g e => .inl (own_lt HOq.out e).1))
             refine hK.out _ _ (fun _ => HSS.out _ HBIv.out HBTv.out) (fun _ => ?_)
             clear hK g1 g2 g3 HBIq HBTq HOq HKq HG
             try simp only [Act.put, List.setIfInBounds_toArray, List.set_cons_zero, List.set_cons_succ]
             refine tkC 12 (hS := HSS.out _ HBIv.out HBTv.out) (h := ?_)
             try simp only [Act.put, List.setIfInBounds_toArray, List.set_cons_zero, List.set_cons_succ]
             have k7 := HBIv.out.cell 7
             have l7 := HBIv.out.frozen 7
             refine oneR 13 (fun K hK => ?_)
             rw [if_pos (by rfl)]
             go_simp
             refine hK.out _ _ (fun h => absurd rfl h) (fun _ => ?_)
             clear hK k7 l7
             try simp only [Act.put]
             refine wpAnyR_done (by kernel_rfl) ?_ _
             go_wp2_with fail
             refine ⟨⟨p + 1, .slice A2 (p + 1) c2, by omega, by push_cast; rfl, Lib.hid (HBIv.out.set_ 7 _), Lib.hid ?_, Lib.hid (Kp.setCell (X := fun b => b = bj + 1) (p := ⟨bj + 1, 7, none⟩) HKv.out (.inr rfl) _)⟩, ?_⟩
             . exact own_at HOv.out fun b hb => Below.heap_setCell wv ⟨bj + 1, 7, none⟩ _ b (by show b ≠ bj + 1; have := (own_lt HOv.out hb).1; have := HBG.out; omega)
             . show nH - ((p : Int) + 1).toNat < nH - ((p : Int)).toNat
               omega
           . obtain rfl : p = nH := by omega
             obtain ⟨nP, hnP⟩ : ∃ nP, nP = p := ⟨_, rfl⟩
             subst hnP
             obtain ⟨wR, hwR⟩ : ∃ wR, wR = wr := ⟨_, rfl⟩
             subst hwR
             have hte : (toL q.2).take nP = toL q.2 := by rw [HNH.out.1, <- toL_len, List.take_length]
             rw [hte] at HO
             obtain ⟨A2, c2, epv, _⟩ := own_readsN HO.out
             subst epv
             have HKR : Hid (Kp (bc + 1) (fun b => b = bj + 1) w4 wR) := Lib.hid (HKP.out.trans (HK.out.mono (by have := HBG.out; omega) (fun _ _ e => e)))
             have HLR : Hid (Lad wR (bc + 1) wR.heap.size [⟨9, 1, .slice A5 n5 c5, n5, tx l5⟩, ⟨9, 1, .slice A6 n6 c6, n6, tx l6⟩, ⟨99, 2, .slice A1 j c1, j, px (le.map cutE)⟩, ⟨9, 1, .slice A4 nK c4, nK, tx lk⟩, ⟨99, 2, .slice A3 m c3, m, px (lb.1.keys.zip (textsJ lb))⟩, ⟨101, 2, .slice A2 nP c2, nP, pastC ((toL q.2).map exPast)⟩]) := Lib.hid (by
               have h1 : Lad wP (bc + 1) BG [⟨9, 1, .slice A5 n5 c5, n5, tx l5⟩, ⟨9, 1, .slice A6 n6 c6, n6, tx l6⟩, ⟨99, 2, .slice A1 j c1, j, px (le.map cutE)⟩, ⟨9, 1, .slice A4 nK c4, nK, tx lk⟩, ⟨99, 2, .slice A3 m c3, m, px (lb.1.keys.zip (textsJ lb))⟩] := by rw [HBG.out.1]; exact HLP.out
               exact (h1.kp HK.out (Nat.le_refl _) (fun b e => by have := HBG.out; omega)).push HO.out (by rw [HBG.out.1]; exact HK.out.size) (Nat.le_refl _))
             clear hte HO HK HKP HLP HRI HTRI HS7 HBG
             have hq := (HFR.out wR HKR.out).2.1
             have x0 := hq.cell 0
             have x1 := hq.cell 1
             have x2 := hq.cell 2
             have x3 := hq.cell 3
             have x4 := hq.cell 4
             clear hq
             go_upto_region 28 with fail
             refine (HAT.out wR (HFR.out wR HKR.out).2.2.2.2 kRoot).mono ?_
             rintro x wS ⟨jR, kR, rfl, hvS, hS⟩
             obtain ⟨rt, hrt⟩ : ∃ rt, rt = atJ (h, k) kRoot := ⟨_, rfl⟩
             have HRT : Hid (rt = atJ (h, k) kRoot /\ Gd rt) := Lib.hid ⟨hrt, by rw [hrt]; exact HGD.out.at _⟩
             rw [<- hrt] at hvS ⊢
             have HVS := Lib.hid hvS
             have HKS : Hid (Kp (bc + 1) (fun b => b = bj + 1) w4 wS) := Lib.hid (HKR.out.step hS (by have := HBS.out; have := HKR.out.size; omega))
             have HBIS := Lib.hid (HBI.out.below hS HBI.out.lt)
             have HLS := Lib.hid (HLR.out.below hS)
             clear hvS hS hrt x0 x1 x2 x3 x4 HBI HKR HLR
             go_upto_region 28 with fail
             refine (at_vt HVS.out HRT.out.2 kDiffs).mono ?_
             rintro x wT ⟨jT, kT, rfl, hvT, hT⟩
             obtain ⟨rd, hrd⟩ : ∃ rd, rd = atJ rt kDiffs := ⟨_, rfl⟩
             have HRD : Hid (rd = atJ rt kDiffs /\ Gd rd) := Lib.hid ⟨hrd, by rw [hrd]; exact HRT.out.2.at _⟩
             rw [<- hrd] at hvT ⊢
             have HVT := Lib.hid hvT
             have HKT : Hid (Kp (bc + 1) (fun b => b = bj + 1) w4 wT) := Lib.hid (HKS.out.step hT (by have := HBS.out; have := HKS.out.size; omega))
             have HBIT := Lib.hid (HBIS.out.below hT HBIS.out.lt)
             have HLT := Lib.hid (HLS.out.below hT)
             clear hvT hT hrd HBIS HKS HLS HVS
             go_upto_region 28 with fail
             refine (texts_vt HVT.out HRD.out.2).mono ?_
             rintro y wU ⟨tv, rfl, hoU, hU2⟩
             obtain ⟨lt, hlt⟩ : ∃ lt, lt = textsJ rd := ⟨_, rfl⟩
             obtain ⟨nD, hnD⟩ : ∃ nD, nD = lt.length := ⟨_, rfl⟩
             have HND : Hid (lt = textsJ rd /\ nD = lt.length /\ nD ≤ 4194304) := Lib.hid ⟨hlt, hnD, by rw [hnD, hlt]; unfold textsJ; rw [List.length_map, toL_len]; exact HRD.out.2.len⟩
             rw [<- hlt, <- hnD] at hoU
             have HKU : Hid (Kp (bc + 1) (fun b => b = bj + 1) w4 wU) := Lib.hid (HKT.out.step hU2 (by have := HBS.out; have := HKT.out.size; omega))
             have HBIU := Lib.hid (HBIT.out.below hU2 HBIT.out.lt)
             have HLU := Lib.hid (HLT.out.below hU2)
             obtain ⟨BD, hBD⟩ : ∃ BD, BD = wU.heap.size := ⟨_, rfl⟩
             have HBD : Hid (BD = wU.heap.size /\ bc + 1 ≤ BD /\ bj + 2 ≤ bc) := Lib.hid ⟨hBD, by rw [hBD]; have := HKU.out.size; have := HBS.out; omega, HBS.out.1⟩
             obtain ⟨At, ct, etv, hrt⟩ := RdS.of_own hoU
             have HRU : Hid (RdS wU (fun b => bc + 1 ≤ b /\ b < BD) 1 At nD (tx lt)) := Lib.hid (hrt.more fun b hb => by have h1 := own_lt hoU hb; have h2 := HKT.out.size; have h3 := HBS.out; omega)
             subst etv
             clear hoU hU2 hlt hnD hBD hrt HBIT HKT HLT HVT
             go_upto_region 28 with fail
             obtain ⟨d0, hdI, dy0, dy1, dy2⟩ := info_parts infoDig
             go_loopw [147] (fun ix wr => ∃ (p : Nat) (pv : Value) (ds : List B), p ≤ nD /\ ix = .int .i64 p /\ Hid (digs (lt.take p) = some ds /\ ds.length = p /\ ∀ d ∈ ds, d.length = 32) /\ Hid (Blk wr (bj + 1) 29 #[.slice A1 j c1, .string ⟨hD.text.toArray⟩, .string ⟨hU.text.toArray⟩, .slice A4 nK c4, .slice A3 m c3, .slice A5 n5 c5, .slice A6 n6 c6, .slice A2 nP c2, pv]) /\ Hid (wr.ownsRow BD 40 32 pv p (digC ds)) /\ Hid (Kp BD (fun b => b = bj + 1) wU wr)) (fun ix _ => nD - (intOf ix).toNat)
             case atStart => exact ⟨0, _, [], by omega, rfl, Lib.hid ⟨rfl, rfl, fun d hd => by cases hd⟩, HBIU, Lib.hid (World.ownsRow_nil _ _ _ _), Lib.hid (Kp.refl _ _ _)⟩
             case round =>
               clear HBIU
               obtain ⟨p, pv, ds, hp, rfl, HDS, HBI, HO, HK⟩ := hrel
               by_cases hpl : p < nD
               . have hlt2 : p < lt.length := by have := HND.out; omega
                 obtain ⟨ad, uu, rfl, _, hu, hcx⟩ := ((HRU.out.kept (fun p hp => HK.out.cell (by have := hp.2; omega) (by have := hp.1; have := HBD.out; omega))).reads (B := wr.heap.size) (fun b hb => by have := hb.2; have := HBD.out; have := HK.out.size; omega)).at_ hpl
                 have hxu := tx_get hu hlt2
                 subst hxu
                 have HX : Hid (lt.take (p + 1) = lt.take p ++ [lt.getD p []] /\ lt.getD p [] ∈ lt) := Lib.hid ⟨by rw [List.take_succ_eq_append_getElem hlt2]; simp [List.getD, List.getElem?_eq_getElem hlt2], by simp [List.getD, List.getElem?_eq_getElem hlt2]⟩
                 generalize lt.getD p [] = t at hcx hu HX
                 clear hu hlt2
                 go_upto_region 30 with fail
                 clear hcx
                 have HE := Lib.hid (ends_of t)
                 go_upto_region 31 with fail
                 refine (Parse_any _ _).mono ?_
                 rintro y wz ⟨rfl, hz⟩
                 rw [HE.out]
                 have HBIz := Lib.hid (HBI.out.below hz HBI.out.lt)
                 have HOz := Lib.hid (own_kept HO.out hz)
                 have HKz : Hid (Kp BD (fun b => b = bj + 1) wU wz /\ BD ≤ wz.heap.size) := Lib.hid ⟨HK.out.step hz (by have := HK.out.size; have := HBD.out; omega), by have := HK.out.size; have := HBD.out; have := hz.size; omega⟩
                 obtain ⟨d, hd⟩ : ∃ d, d = (Plain.digParse t).getD Plain.z32 := ⟨_, rfl⟩
                 have HDL : Hid (d = (Plain.digParse t).getD Plain.z32 /\ d.length = 32) := Lib.hid ⟨hd, by
                   rw [hd]
                   cases h1 : Plain.digParse t with
                   | none => rfl
                   | some x => exact digParse_len h1⟩
                 rw [<- hd]
                 have hif : (Tryz.prog.info? 40).map (·.size) = some (Lib.byteCells d).length := by rw [bytes_len, HDL.out.2]; kernel_rfl
                 have hone : (Lib.byteCells d).toArray.all (·.oneCell') = true := one_byteCells d
                 have hsz32 : (Lib.byteCells d).length = 32 := by rw [bytes_len]; exact HDL.out.2
                 obtain ⟨bd, hbd⟩ : ∃ bd, bd = (Plain.digParse t).isNone := ⟨_, rfl⟩
                 have HBDD := Lib.hid hbd
                 rw [<- hbd]
                 clear hbd hz hd HE HBI HO HK
                 cases bd with
                 | true =>
                   have HNO : Hid (progI s = none) := Lib.hid (progI_none HPS.out (digs_none (t := t) (by
                     show t ∈ textsJ (atJ (atJ (h, k) kRoot) kDiffs)
                     rw [<- HRT.out.1, <- HRD.out.1, <- HND.out.1]; exact HX.out.2) (by
                     have h1 := HBDD.out
                     cases h2 : Plain.digParse t with
                     | none => rfl
                     | some x => rw [h2] at h1; cases h1)))
                   rw [if_pos rfl, show errnoV 4 = Value.iface 110 (.int .i64 4) from rfl]
                   go_upto_region 31 with (refine wpList_store_row rfl 40 _ _ rfl _ _ rfl rfl 40 _ (heap_alloc_new _ _) (by simpa using hif) (by simp [hsz32]) hone ?_)
                   rw [alloc_setRow]
                   obtain ⟨wX, hwX⟩ : ∃ wX, wX = wz.alloc (.cells (Lib.byteCells d).toArray 40) := ⟨_, rfl⟩
                   have HKX : Hid (Kp (bc + 1) (fun b => b = bj + 1) w4 wX) := Lib.hid (HKU.out.trans ((show Kp BD (fun b => b = bj + 1) wU wX by rw [hwX]; exact HKz.out.1.alloc HKz.out.2 _).mono (by have := HBD.out; omega) (fun _ _ e => e)))
                   have HBRX : Hid (Blk wX b0 29 zIm) := Lib.hid (HFR.out wX HKX.out).2.2.1
                   have HWX : Hid (Below b0 w wX) := Lib.hid (HFR.out wX HKX.out).2.2.2.1
                   rw [<- hwX]
                   clear hwX
                   go_upto_region 32 with fail
                   go_wp2_with (first | refine wpList_build_as rfl 29 _ rfl zIm run_empty_image ?_ | refine wpList_store_row rfl 29 _ _ rfl _ _ rfl rfl 29 _ HBRX.out infoIm rfl one_im ?_)
                   refine bodyPost_ret (results_row_tmp rfl _ _ b0 29 zIm (0, 0) _ rfl (setRow_same HBRX.out zIm) Tryz.underlying29 rfl infoIm) rfl ?_
                   refine ipost_no HNO.out ?_
                   rw [<- HB0.out]
                   exact setRow_below HWX.out (Nat.le_refl _) _
                 | false =>
                   have HSO : Hid (Plain.digParse t = some d) := Lib.hid (by
                     have h1 := HBDD.out
                     cases h2 : Plain.digParse t with
                     | none => rw [h2] at h1; cases h1
                     | some x => rw [HDL.out.1, h2]; rfl)
                   have HDS2 : Hid (digs (lt.take (p + 1)) = some (ds ++ [d]) /\ (ds ++ [d]).length = p + 1 /\ ∀ x ∈ ds ++ [d], x.length = 32) := Lib.hid ⟨by rw [HX.out.1]; exact digs_snoc HDS.out.1 HSO.out, by rw [List.length_append, HDS.out.2.1]; rfl, fun x hx => by
                     rcases List.mem_append.1 hx with h1 | h1
                     . exact HDS.out.2.2 x h1
                     . rw [List.mem_singleton.1 h1]; exact HDL.out.2⟩
                   rw [if_neg (by decide)]
                   go_upto_region 31 with (refine wpList_store_row rfl 40 _ _ rfl _ _ rfl rfl 40 _ (heap_alloc_new _ _) (by simpa using hif) (by simp [hsz32]) hone ?_)
                   rw [alloc_setRow]
                   obtain ⟨bt, hbt⟩ : ∃ bt, bt = wz.heap.size := ⟨_, rfl⟩
                   obtain ⟨wX, hwX⟩ : ∃ wX, wX = wz.alloc (.cells (Lib.byteCells d).toArray 40) := ⟨_, rfl⟩
                   have hbX : Below wz.heap.size wz wX := by rw [hwX]; exact (Below.refl _ _).alloc (Nat.le_refl _) _
                   have HBT : Hid (Blk wX bt 40 (Lib.byteCells d).toArray) := Lib.hid (by rw [hwX, hbt]; exact Blk.new _ _ _)
                   have HBIX := Lib.hid (HBIz.out.below hbX HBIz.out.lt)
                   have HOX := Lib.hid (own_kept HOz.out hbX)
                   have HKX : Hid (Kp BD (fun b => b = bj + 1) wU wX /\ BD ≤ wX.heap.size) := Lib.hid ⟨HKz.out.1.step hbX HKz.out.2, by have := HKz.out.2; have := hbX.size; omega⟩
                   rw [<- hwX, <- hbt]
                   clear hwX hbt hbX HBIz HOz HKz hone
                   obtain ⟨A9, c9, epv, _⟩ := own_readsN HOX.out
                   subst epv
                   have hrg : wX.rangeAt bt 0 (Lib.byteCells d) := fun jj v hv => by rw [Nat.zero_add, HBT.out.cell]; simpa using hv
                   have hsl := slice1_dig d HDL.out.2
                   have hpn : p ≤ 4194304 := by have := HND.out; omega
                   have hsX : BD ≤ wX.heap.size := HKX.out.2
                   have hrx : Reads (wX.alloc (.cells (Lib.byteCells d).toArray 40)) (wX.heap.size + 1) 32 (some ⟨wX.heap.size, 0, none⟩) 1 (Lib.byteCells d) := by
                     have := Reads.of_block (size := 32) (n := 1) (heap_alloc_new wX (.cells (Lib.byteCells d).toArray 40)) (by simp [hsz32])
                     simpa using this
                   have hrb : ∀ u ∈ Lib.byteCells d, u.oneCell' = true := by
                     have h1 := one_byteCells d
                     rw [List.all_toArray, List.all_eq_true] at h1
                     exact h1
                   have k8 := HBIX.out.cell 8
                   go_upto_region 34 with (first | refine wpList_load_mid rfl 40 _ rfl bt 0 rfl _ _ hrg Tryz.underlying40 rfl hif ?_ | refine wpList_slice_dig rfl _ rfl _ hsl rfl ?_ | (at_builtin; go_loud (refine wpList_append_any _ rfl _ _ 27 rfl BD 40 d0 _ 32 32 Tryz.underlying27 hdI dy0 dy1 dy2 rfl (by decide) (.slice A9 p c9) p _ rfl (World.ownsRow.alloc HOX.out _) (wX.heap.size + 1) (some ⟨wX.heap.size, 0, none⟩) 1 1 (Lib.byteCells d) rfl hrx hrb (by unfold maxLen; omega) (by omega) (by simp; omega) ?_; intro v6 wv q1 q2 q3; obtain ⟨A8, c8, e6, _⟩ := own_readsN q1; subst e6; have HOv := Lib.hid q1; have HGv := Lib.hid q2; have HBIv := Lib.hid ((HBIX.out.alloc _).grown q2 (fun e => by have := (own_lt HOX.out e.symm).1; have := HBD.out; omega)); have k1 := HBIv.out.cell 8; have l1 := HBIv.out.frozen 8; clear q1 q2 q3)))
                   have HKa : Kp BD (fun b => b = bj + 1) wU (wX.alloc (.cells (Lib.byteCells d).toArray 40)) := HKX.out.1.alloc hsX _
                   have HKv : Hid (Kp BD (fun b => b = bj + 1) wU wv) := Lib.hid (HKa.grown HGv.out (by simp; omega) (fun g e => .inl (own_lt HOX.out e).1))
                   go_wp2_with fail
                   refine ⟨⟨p + 1, .slice A8 (p + 1) c8, ds ++ [d], by omega, by push_cast; rfl, HDS2, Lib.hid (HBIv.out.set_ 8 _), Lib.hid ?_, Lib.hid (Kp.setCell (X := fun b => b = bj + 1) (p := ⟨bj + 1, 8, none⟩) HKv.out (.inr rfl) _)⟩, ?_⟩
                   . rw [digC_snoc]
                     exact own_at HOv.out fun b hb => Below.heap_setCell wv ⟨bj + 1, 8, none⟩ _ b (by show b ≠ bj + 1; have := (own_lt HOv.out hb).1; have := HBD.out; omega)
                   . show nD - ((p : Int) + 1).toNat < nD - ((p : Int)).toNat
                     omega
               . obtain rfl : p = nD := by omega
                 obtain ⟨nV, hnV⟩ : ∃ nV, nV = p := ⟨_, rfl⟩
                 subst hnV
                 obtain ⟨wV, hwV⟩ : ∃ wV, wV = wr := ⟨_, rfl⟩
                 subst hwV
                 have HDA : Hid (digs (diffsJ (h, k)) = some ds /\ ds.length = nV /\ ∀ d ∈ ds, d.length = 32) := Lib.hid (by
                   refine ⟨?_, HDS.out.2⟩
                   have h1 := HDS.out.1
                   rw [List.take_of_length_le (by have := HND.out; omega), HND.out.1, HRD.out.1, HRT.out.1] at h1
                   exact h1)
                 obtain ⟨A0, c0, epv, _⟩ := own_readsN HO.out
                 subst epv
                 have HKV : Hid (Kp (bc + 1) (fun b => b = bj + 1) w4 wV) := Lib.hid (HKU.out.trans (HK.out.mono (by have := HBD.out; omega) (fun _ _ e => e)))
                 have HLV : Hid (Lad wV (bc + 1) wV.heap.size [⟨9, 1, .slice A5 n5 c5, n5, tx l5⟩, ⟨9, 1, .slice A6 n6 c6, n6, tx l6⟩, ⟨99, 2, .slice A1 j c1, j, px (le.map cutE)⟩, ⟨9, 1, .slice A4 nK c4, nK, tx lk⟩, ⟨99, 2, .slice A3 m c3, m, px (lb.1.keys.zip (textsJ lb))⟩, ⟨101, 2, .slice A2 nP c2, nP, pastC ((toL q.2).map exPast)⟩, ⟨40, 32, .slice A0 nV c0, nV, digC ds⟩]) := Lib.hid (by
                   have h1 : Lad wU (bc + 1) BD [⟨9, 1, .slice A5 n5 c5, n5, tx l5⟩, ⟨9, 1, .slice A6 n6 c6, n6, tx l6⟩, ⟨99, 2, .slice A1 j c1, j, px (le.map cutE)⟩, ⟨9, 1, .slice A4 nK c4, nK, tx lk⟩, ⟨99, 2, .slice A3 m c3, m, px (lb.1.keys.zip (textsJ lb))⟩, ⟨101, 2, .slice A2 nP c2, nP, pastC ((toL q.2).map exPast)⟩] := by rw [HBD.out.1]; exact HLU.out
                   exact (h1.kp HK.out (Nat.le_refl _) (fun b e => by have := HBD.out; omega)).push HO.out (by rw [HBD.out.1]; exact HK.out.size) (Nat.le_refl _))
                 clear HO HK HKU HLU HDS HRU
                 obtain ⟨I, hI⟩ : ∃ I, I = readI (h, k) ds := ⟨_, rfl⟩
                 have HIE : Hid (I = readI (h, k) ds /\ Few I) := Lib.hid ⟨hI, by rw [hI]; exact few_readI HGD.out HDA.out.1⟩
                 have HIO : Hid (ImgO wV (bc + 1) I #[.slice A1 j c1, .string ⟨hD.text.toArray⟩, .string ⟨hU.text.toArray⟩, .slice A4 nK c4, .slice A3 m c3, .slice A5 n5 c5, .slice A6 n6 c6, .slice A2 nP c2, .slice A0 nV c0]) := Lib.hid (by
                   have e1 : I.cfg.env = le.map cutE := by rw [hI, HLE.out.1, HC.out]; rfl
                   have e2 : I.cfg.ports = lk := by rw [hI, HLK.out.1, HC.out]; rfl
                   have e3 : I.cfg.labels = lb.1.keys.zip (textsJ lb) := by rw [hI, HLB.out.1, HC.out]; rfl
                   have e4 : I.cfg.cmd = l5 := by rw [hI, HE5.out.1, HC.out]; rfl
                   have e5 : I.cfg.entry = l6 := by rw [hI, HE6.out.1, HC.out]; rfl
                   have e6 : I.past = (toL q.2).map exPast := by rw [hI, HQ.out.1]; rfl
                   have e7 : I.diffs = ds := by rw [hI]; rfl
                   have e8 : I.cfg.dir = hD.text := by rw [hI, HDD.out, HC.out]; rfl
                   have e9 : I.cfg.user = hU.text := by rw [hI, HU.out, HC.out]; rfl
                   have d1 : (le.map cutE).length = j := by rw [List.length_map]; exact HNT.out.1.symm
                   have d2 : lk.length = nK := HLK.out.2.1.symm
                   have d3 : (lb.1.keys.zip (textsJ lb)).length = m := HZ3.out
                   have d6 : ((toL q.2).map exPast).length = nP := by rw [List.length_map, toL_len]; exact HNH.out.1.symm
                   refine ⟨A1, c1, A4, c4, A3, c3, A5, c5, A6, c6, A2, c2, A0, c0, ?_, ?_, ?_⟩
                   . rw [e1, e2, e3, e4, e5, e6, e7, e8, e9, d1, d2, d3, d6, HDA.out.2.1, <- HE5.out.2, <- HE6.out.2]
                   . rw [e1, e2, e3, e4, e5, e6, e7, d1, d2, d3, d6, HDA.out.2.1, <- HE5.out.2, <- HE6.out.2]
                     exact HLV.out
                   . rw [e7]; exact HDA.out.2.2)
                 clear hI HLV
                 have HIM : Hid (Calls Tryz.prog 12 #[.agg #[.slice A1 j c1, .string ⟨hD.text.toArray⟩, .string ⟨hU.text.toArray⟩, .slice A4 nK c4, .slice A3 m c3, .slice A5 n5 c5, .slice A6 n6 c6, .slice A2 nP c2, .slice A0 nV c0]] wV fun x w' => x = .returned (.tuple #[.string ⟨(imgP I).1.toArray⟩, errV (imgP I).2]) /\ Below wV.heap.size wV w') :=
                   Lib.hid (image_any I _ wV HIO.out.reads HIE.out.2 (HST.out.below (by rw [<- HB0.out]; exact (HFR.out wV HKV.out).2.2.2.1)))
                 have hrg : wV.rangeAt (bj + 1) 0 (#[.slice A1 j c1, .string ⟨hD.text.toArray⟩, .string ⟨hU.text.toArray⟩, .slice A4 nK c4, .slice A3 m c3, .slice A5 n5 c5, .slice A6 n6 c6, .slice A2 nP c2, .slice A0 nV c0] : Array Value).toList := fun jj v hv => by rw [Nat.zero_add, HBI.out.cell]; simpa using hv
                 go_upto_region 36 with (refine wpList_load_mid rfl 29 _ rfl (bj + 1) 0 rfl (#[.slice A1 j c1, .string ⟨hD.text.toArray⟩, .string ⟨hU.text.toArray⟩, .slice A4 nK c4, .slice A3 m c3, .slice A5 n5 c5, .slice A6 n6 c6, .slice A2 nP c2, .slice A0 nV c0] : Array Value).toList _ hrg Tryz.underlying29 rfl infoIm ?_)
                 refine HIM.out.mono ?_
                 clear HIM hrg
                 rintro x wf ⟨rfl, hbf⟩
                 have HBRf : Hid (Blk wf b0 29 zIm) := Lib.hid ((HFR.out wV HKV.out).2.2.1.below hbf (HFR.out wV HKV.out).2.2.1.lt)
                 have HBIf := Lib.hid (HBI.out.below hbf HBI.out.lt)
                 have HIOf := Lib.hid (HIO.out.below hbf)
                 have HWf : Hid (Below b0 w wf) := Lib.hid ((HFR.out wV HKV.out).2.2.2.1.trans (hbf.mono (by have := (HFR.out wV HKV.out).2.2.1.lt; omega)))
                 clear hbf HBI HIO
                 obtain ⟨T, hT⟩ : ∃ T, T = (imgP I).1 := ⟨_, rfl⟩
                 obtain ⟨no, hno⟩ : ∃ no, no = (imgP I).2 := ⟨_, rfl⟩
                 have HP : Hid (imgP I = (T, no)) := Lib.hid (by rw [hT, hno])
                 rw [<- hT, <- hno]
                 clear hT hno
                 by_cases h0 : no = 0
                 . rw [h0, show errV 0 = Value.nilIface from rfl]
                   by_cases hts : T = s
                   . have HYES : Hid (progI s = some I) := Lib.hid (by rw [HIE.out.1]; exact progI_good HPS.out HDA.out.1 (by rw [<- HIE.out.1, HP.out, hts, h0]))
                     rw [hts]
                     clear hts h0
                     have hrg : wf.rangeAt (bj + 1) 0 (#[.slice A1 j c1, .string ⟨hD.text.toArray⟩, .string ⟨hU.text.toArray⟩, .slice A4 nK c4, .slice A3 m c3, .slice A5 n5 c5, .slice A6 n6 c6, .slice A2 nP c2, .slice A0 nV c0] : Array Value).toList := fun jj v hv => by rw [Nat.zero_add, HBIf.out.cell]; simpa using hv
                     have hoi : (#[.slice A1 j c1, .string ⟨hD.text.toArray⟩, .string ⟨hU.text.toArray⟩, .slice A4 nK c4, .slice A3 m c3, .slice A5 n5 c5, .slice A6 n6 c6, .slice A2 nP c2, .slice A0 nV c0] : Array Value).all (·.oneCell') = true := by kernel_rfl
                     have hii : (Tryz.prog.info? 29).map (·.size) = some (#[.slice A1 j c1, .string ⟨hD.text.toArray⟩, .string ⟨hU.text.toArray⟩, .slice A4 nK c4, .slice A3 m c3, .slice A5 n5 c5, .slice A6 n6 c6, .slice A2 nP c2, .slice A0 nV c0] : Array Value).size := by kernel_rfl
                     go_upto_region 38 with fail
                     go_wp2_with (first | refine wpList_load_mid rfl 29 _ rfl (bj + 1) 0 rfl (#[.slice A1 j c1, .string ⟨hD.text.toArray⟩, .string ⟨hU.text.toArray⟩, .slice A4 nK c4, .slice A3 m c3, .slice A5 n5 c5, .slice A6 n6 c6, .slice A2 nP c2, .slice A0 nV c0] : Array Value).toList _ hrg Tryz.underlying29 rfl infoIm ?_ | refine wpList_store_row rfl 29 _ _ rfl _ _ rfl rfl 29 _ HBRf.out hii rfl hoi ?_)
                     refine bodyPost_ret (results_row_tmp rfl _ _ b0 29 #[.slice A1 j c1, .string ⟨hD.text.toArray⟩, .string ⟨hU.text.toArray⟩, .slice A4 nK c4, .slice A3 m c3, .slice A5 n5 c5, .slice A6 n6 c6, .slice A2 nP c2, .slice A0 nV c0] (0, 0) _ rfl (setRow_same HBRf.out _) Tryz.underlying29 rfl infoIm) rfl ?_
                     unfold IPost
                     rw [HYES.out]
                     refine ⟨?_, #[.slice A1 j c1, .string ⟨hD.text.toArray⟩, .string ⟨hU.text.toArray⟩, .slice A4 nK c4, .slice A3 m c3, .slice A5 n5 c5, .slice A6 n6 c6, .slice A2 nP c2, .slice A0 nV c0], rfl, ?_, HIE.out.2⟩
                     . rw [<- HB0.out]; exact setRow_below HWf.out (Nat.le_refl _) _
                     . obtain ⟨B1, z1, B2, z2, B3, z3, B4, z4, B5, z5, B6, z6, B7, z7, e, hl, hd⟩ := HIOf.out
                       refine ⟨B1, z1, B2, z2, B3, z3, B4, z4, B5, z5, B6, z6, B7, z7, e, ?_, hd⟩
                       have h1 := (hl.row (g := b0) (by have := HBS.out; omega) #[.slice A1 j c1, .string ⟨hD.text.toArray⟩, .string ⟨hU.text.toArray⟩, .slice A4 nK c4, .slice A3 m c3, .slice A5 n5 c5, .slice A6 n6 c6, .slice A2 nP c2, .slice A0 nV c0]).less (by have := HBS.out; have := HB0.out; omega : w.heap.size ≤ bc + 1)
                       have h2 : (wf.setRow b0 #[.slice A1 j c1, .string ⟨hD.text.toArray⟩, .string ⟨hU.text.toArray⟩, .slice A4 nK c4, .slice A3 m c3, .slice A5 n5 c5, .slice A6 n6 c6, .slice A2 nP c2, .slice A0 nV c0]).heap.size = wf.heap.size := by simp [World.setRow]
                       rw [h2]; exact h1
                   . have HNO : Hid (progI s = none) := Lib.hid (progI_bad HPS.out HDA.out.1 (by rw [<- HIE.out.1, HP.out]; intro e; injection e with e1 e2; exact hts e1))
                     have hts2 : (T == s) = false := by simpa using hts
                     clear h0 hts
                     go_upto_region 37 with fail
                     clear hts2
                     go_wp2_with (first | refine wpList_build_as rfl 29 _ rfl zIm run_empty_image ?_ | refine wpList_store_row rfl 29 _ _ rfl _ _ rfl rfl 29 _ HBRf.out infoIm rfl one_im ?_)
                     refine bodyPost_ret (results_row_tmp rfl _ _ b0 29 zIm (0, 0) _ rfl (setRow_same HBRf.out zIm) Tryz.underlying29 rfl infoIm) rfl ?_
                     refine ipost_no HNO.out ?_
                     rw [<- HB0.out]
                     exact setRow_below HWf.out (Nat.le_refl _) _
                 . have HNO : Hid (progI s = none) := Lib.hid (progI_bad HPS.out HDA.out.1 (by rw [<- HIE.out.1, HP.out]; intro e; injection e with e1 e2; exact h0 e2))
                   rw [errV_ne h0, show errnoV no = Value.iface 110 (.int .i64 no) from rfl]
                   clear h0
                   go_upto_region 37 with fail
                   go_wp2_with (first | refine wpList_build_as rfl 29 _ rfl zIm run_empty_image ?_ | refine wpList_store_row rfl 29 _ _ rfl _ _ rfl rfl 29 _ HBRf.out infoIm rfl one_im ?_)
                   refine bodyPost_ret (results_row_tmp rfl _ _ b0 29 zIm (0, 0) _ rfl (setRow_same HBRf.out zIm) Tryz.underlying29 rfl infoIm) rfl ?_
                   refine ipost_no HNO.out ?_
                   rw [<- HB0.out]
                   exact setRow_below HWf.out (Nat.le_refl _) _
end Js.Cf
end Go.Proofs.YtjohdaobhonioaaGreatDoor
