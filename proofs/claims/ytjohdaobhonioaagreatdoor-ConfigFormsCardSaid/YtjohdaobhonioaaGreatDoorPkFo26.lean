/-
  Parts of the proof: CfG, CfX, HexR, HexS.
-/
import Derived.Test.YtjohdaobhonioaaGreatDoorPkFo20
import Derived.Test.YtjohdaobhonioaaGreatDoorPkFo25
import Derived.Test.YtjohdaobhonioaaGreatDoorPkFo16
import Derived.BigQuiet
import Derived.Deep.QuietTactic
import Derived.Test.YtjohdaobhonioaaGreatDoorPkFo2
namespace Go.Proofs.YtjohdaobhonioaaGreatDoor
open Go.RowKit
namespace Js.Cf
theorem getP_is (v : V) (key : B) : getP v key = getO v.1 v.2 key := rfl
theorem VT.of_ot {w : World} {B' : Nat} {v : V} {iv kv : Value} {bs : List Nat} (h : OT encJ w B' 54 9 (.cons v.1 v.2 .nil) (jcells v.1 iv kv) bs) : VT w B' v (jcells v.1 iv kv).toArray :=
 ⟨iv, kv, (· ∈ bs), rfl, TR.tv (h.tr rfl), fun b hb => h.lt b hb⟩
theorem VT.zero (w : World) (B' : Nat) : VT w B' tZ (jcells tZ.1 (.slice none 0 0) (.slice none 0 0)).toArray :=
 ⟨.slice none 0 0, .slice none 0 0, fun _ => False, rfl, ⟨none, 0, none, 0, [], rfl, by simp [tZ, F.len], ⟨by simp [tZ, plainH], fun h => by cases h⟩, RdS.none_, rfl, RdS.none_⟩, fun _ h => h.elim⟩
set_option maxHeartbeats 8000000 in
set_option maxRecDepth 100000 in
theorem at_any (v : V) (iv kv : Value) (key : B) (S : Nat -> Prop) (w : World) (htv : TV encJ w S v.1 v.2 (jcells v.1 iv kv)) (hS : ∀ b, S b -> b < w.heap.size) (hsz : v.2.sz ≤ 1099511627776) (hdp : v.2.deep ≤ 65536) :
  Calls Tryz.prog 43 #[.agg #[.int .i64 v.1.kind, .int .i64 v.1.num, .string ⟨v.1.text.toArray⟩, iv, kv], .string ⟨key.toArray⟩] w fun x w' =>
   ∃ jv jk, x = .returned (.agg #[.int .i64 (atJ v key).1.kind, .int .i64 (atJ v key).1.num, .string ⟨(atJ v key).1.text.toArray⟩, jv, jk]) /\ VT w' w.heap.size (atJ v key) (jcells (atJ v key).1 jv jk).toArray /\ Below w.heap.size w w' := by
 obtain ⟨b0, hb0⟩ : ∃ b0, b0 = w.heap.size := ⟨_, rfl⟩
 obtain ⟨wc, hwc⟩ : ∃ wc, wc = (w.alloc (.cells #[.int .i64 v.1.kind, .int .i64 v.1.num, .string ⟨v.1.text.toArray⟩, iv, kv] 54)).alloc (.cells #[.int .i64 0, .int .i64 0, .string ⟨#[]⟩, .slice none 0 0, .slice none 0 0] 54) := ⟨_, rfl⟩
 have HP0 : Hid (Blk wc b0 54 #[.int .i64 v.1.kind, .int .i64 v.1.num, .string ⟨v.1.text.toArray⟩, iv, kv]) := Lib.hid (by rw [hwc, hb0]; exact (Blk.new _ _ _).alloc _)
 have HR1 : Hid (Blk wc (b0 + 1) 54 #[.int .i64 0, .int .i64 0, .string ⟨#[]⟩, .slice none 0 0, .slice none 0 0]) := Lib.hid (by
  have := Blk.new (w.alloc (.cells #[.int .i64 v.1.kind, .int .i64 v.1.num, .string ⟨v.1.text.toArray⟩, iv, kv] 54)) 54 #[.int .i64 0, .int .i64 0, .string ⟨#[]⟩, .slice none 0 0, .slice none 0 0]
  rw [hwc, hb0]; simpa using this)
 have HW0 : Hid (Below b0 w wc /\ wc.heap.size = b0 + 2) := Lib.hid (by rw [hwc, hb0]; exact ⟨((Below.refl _ _).alloc (Nat.le_refl _) _).alloc (by simp) _, by simp⟩)
 have HB0 : Hid (b0 = w.heap.size) := Lib.hid hb0
 have HG := Lib.hid (get_any v.1 v.2 iv kv key S wc (htv.kept fun p hp => HW0.out.1.cell (by rw [hb0]; exact hS _ hp)) (fun b hb => by have := hS b hb; have := HW0.out.2; omega) hsz hdp)
 have x0 := HP0.out.cell 0
 have x1 := HP0.out.cell 1
 have x2 := HP0.out.cell 2
 have x3 := HP0.out.cell 3
 have x4 := HP0.out.cell 4
 clear htv hS hsz hdp
 go_enter Tryz.func43, Tryz.ntmps43
 go_upto_region 1 with fail
 rw [<- hwc, <- hb0]
 clear hwc hb0
 go_upto_region 2 with fail
 refine HG.out.mono ?_
 intro x w1 hx
 have HA : ∃ (jv jk : Value) (z : Bool), x = .returned (.tuple #[.agg #[.int .i64 (atJ v key).1.kind, .int .i64 (atJ v key).1.num, .string ⟨(atJ v key).1.text.toArray⟩, jv, jk], .bool z]) /\ VT w1 (b0 + 2) (atJ v key) (jcells (atJ v key).1 jv jk).toArray /\ Below (b0 + 2) wc w1 := by
  unfold GPost at hx
  rw [HW0.out.2] at hx
  cases hg : getO v.1 v.2 key with
  | none =>
   rw [hg] at hx
   obtain ⟨rfl, hb⟩ := hx
   have e : atJ v key = tZ := by unfold atJ; rw [getP_is, hg]; rfl
   rw [e]
   exact ⟨.slice none 0 0, .slice none 0 0, false, rfl, VT.zero _ _, hb⟩
  | some p =>
   rw [hg] at hx
   obtain ⟨jv, jk, bs, rfl, hot, _, hb⟩ := hx
   have e : atJ v key = p := by unfold atJ; rw [getP_is, hg]; rfl
   rw [e]
   exact ⟨jv, jk, true, rfl, VT.of_ot (v := p) hot, hb⟩
 clear hx HG
 obtain ⟨u, hu⟩ : ∃ u, u = atJ v key := ⟨_, rfl⟩
 rw [<- hu] at HA
 have HU := Lib.hid hu
 clear hu
 obtain ⟨jv, jk, z, rfl, h1, h2⟩ := HA
 have HF1 : Hid (VT w1 (b0 + 2) u (jcells u.1 jv jk).toArray /\ Below b0 w w1) := Lib.hid ⟨h1, HW0.out.1.trans (h2.mono (by omega))⟩
 have HR2 : Hid (Blk w1 (b0 + 1) 54 #[.int .i64 0, .int .i64 0, .string ⟨#[]⟩, .slice none 0 0, .slice none 0 0]) := Lib.hid (HR1.out.below h2 (by omega))
 have hone : ([.int .i64 u.1.kind, .int .i64 u.1.num, .string ⟨u.1.text.toArray⟩, jv, jk] : List Value).toArray.all (·.oneCell') = true := all_oneCell_toArray h1.one
 have hi5 : (Tryz.prog.info? 54).map (·.size) = some 5 := by kernel_rfl
 have hsz2 : b0 + 2 ≤ w1.heap.size := by have := h2.size; have := HW0.out.2; omega
 clear h1 h2 x0 x1 x2 x3 x4
 go_upto_region 2 with (refine wpList_store_row rfl 54 _ _ rfl _ _ rfl rfl 54 _ (heap_alloc_new _ _) (by simpa using hi5) (by simp) hone ?_)
 rw [alloc_setRow]
 obtain ⟨w2, hw2⟩ : ∃ w2, w2 = w1.alloc (.cells #[.int .i64 u.1.kind, .int .i64 u.1.num, .string ⟨u.1.text.toArray⟩, jv, jk] 54) := ⟨_, rfl⟩
 obtain ⟨bn, hbn⟩ : ∃ bn, bn = w1.heap.size := ⟨_, rfl⟩
 have HN2 : Hid (Blk w2 bn 54 #[.int .i64 u.1.kind, .int .i64 u.1.num, .string ⟨u.1.text.toArray⟩, jv, jk]) := Lib.hid (by rw [hw2, hbn]; exact Blk.new _ _ _)
 have hb2 : Below w1.heap.size w1 w2 := by rw [hw2]; exact (Below.refl _ _).alloc (Nat.le_refl _) _
 have HR3 := Lib.hid (HR2.out.below hb2 (by omega))
 have HF2 : Hid (VT w2 (b0 + 2) u (jcells u.1 jv jk).toArray /\ Below b0 w w2) := Lib.hid ⟨HF1.out.1.below hb2, HF1.out.2.trans (hb2.mono (by omega))⟩
 rw [<- hw2, <- hbn]
 clear hw2 hbn hb2 HF1 HR1 HR2
 have x0 := HN2.out.cell 0
 have x1 := HN2.out.cell 1
 have x2 := HN2.out.cell 2
 have x3 := HN2.out.cell 3
 have x4 := HN2.out.cell 4
 go_wp2_with (refine wpList_store_row rfl 54 _ _ rfl _ _ rfl rfl 54 _ HR3.out (by simpa using hi5) (by simp) hone ?_)
 obtain ⟨w3, hw3⟩ : ∃ w3, w3 = w2.setRow (b0 + 1) #[.int .i64 u.1.kind, .int .i64 u.1.num, .string ⟨u.1.text.toArray⟩, jv, jk] := ⟨_, rfl⟩
 have H3 : Hid (Blk w3 (b0 + 1) 54 #[.int .i64 u.1.kind, .int .i64 u.1.num, .string ⟨u.1.text.toArray⟩, jv, jk]) := Lib.hid (by rw [hw3]; exact setRow_same HR3.out _)
 have HF : Hid (VT w3 w.heap.size u (jcells u.1 jv jk).toArray /\ Below w.heap.size w w3) := Lib.hid (by
  have h1 : VT w3 (b0 + 2) u (jcells u.1 jv jk).toArray := HF2.out.1.kept (fun b hb _ => by rw [hw3]; exact setRow_other w2 (b0 + 1) b _ (by omega)) (by rw [hw3]; simp)
  rw [<- HB0.out]
  refine ⟨h1.less (by omega), ?_⟩
  rw [hw3]
  exact setRow_below HF2.out.2 (by omega) _)
 rw [<- hw3]
 clear hw3 x0 x1 x2 x3 x4
 (try simp only [Exit.inBlock, Exit.then])
 refine bodyPost_ret (results_cell_row rfl _ _ (b0 + 1) 54 _ (0, 0) _ rfl H3.out Tryz.underlying54 rfl (by simpa using hi5)) rfl ?_
 rw [<- HU.out]
 exact ⟨jv, jk, rfl, HF.out⟩
end Js.Cf
end Go.Proofs.YtjohdaobhonioaaGreatDoor
namespace Go.Proofs.YtjohdaobhonioaaGreatDoor
open Go.RowKit
namespace Js.Cf
set_option maxHeartbeats 8000000 in
set_option maxRecDepth 100000 in
theorem texts_any (v : V) (iv kv : Value) (S : Nat -> Prop) (w : World) (htv : TV encJ w S v.1 v.2 (jcells v.1 iv kv)) (hS : ∀ b, S b -> b < w.heap.size) (hl : v.2.len ≤ 1099511627776) :
  Calls Tryz.prog 44 #[.agg #[.int .i64 v.1.kind, .int .i64 v.1.num, .string ⟨v.1.text.toArray⟩, iv, kv]] w fun x w' => ∃ rv, x = .returned rv /\ w'.ownsRow w.heap.size 9 1 rv (textsJ v).length (tx (textsJ v)) /\ Below w.heap.size w w' := by
 obtain ⟨A1, c1, A2, c2, us, ecs, hlk, ⟨hlq, _⟩, hr1, htr, hr2⟩ := htv
 have eiv : iv = .slice A1 v.2.len c1 /\ kv = .slice A2 v.1.keys.length c2 := by
  simp only [encJ, jcells, List.cons.injEq, and_true, true_and] at ecs
  exact ecs
 obtain ⟨rfl, rfl⟩ := eiv
 obtain ⟨i0, hi, hz0, hz1, hz2⟩ := info_parts infoStr
 obtain ⟨n, hn⟩ : ∃ n, n = v.2.len := ⟨_, rfl⟩
 have hln : (textsJ v).length = n := by rw [hn]; unfold textsJ; rw [List.length_map, toL_len]
 have HLN := Lib.hid hln
 have HN := Lib.hid hn
 have HTR := Lib.hid htr
 have HR1 := Lib.hid (hr1.reads hS)
 have HS := Lib.hid hS
 rw [<- hn] at hl HR1 ⊢
 obtain ⟨b0, hb0⟩ : ∃ b0, b0 = w.heap.size := ⟨_, rfl⟩
 obtain ⟨wc, hwc⟩ : ∃ wc, wc = w.alloc (.cells #[.int .i64 v.1.kind, .int .i64 v.1.num, .string ⟨v.1.text.toArray⟩, .slice A1 n c1, .slice A2 v.1.keys.length c2] 54) := ⟨_, rfl⟩
 have HB : Hid (Blk wc b0 54 #[.int .i64 v.1.kind, .int .i64 v.1.num, .string ⟨v.1.text.toArray⟩, .slice A1 n c1, .slice A2 v.1.keys.length c2]) := Lib.hid (by rw [hwc, hb0]; exact Blk.new _ _ _)
 have HW0 : Hid (Below b0 w wc /\ wc.heap.size = b0 + 1 /\ b0 = w.heap.size) := Lib.hid (by rw [hwc, hb0]; exact ⟨(Below.refl _ _).alloc (Nat.le_refl _) _, by simp, rfl⟩)
 clear hr1 htr hr2 hS hlk hlq ecs hn hln
 go_enter Tryz.func44, Tryz.ntmps44
 go_upto_region 1 with fail
 rw [<- hwc, <- hb0]
 clear hwc hb0
 have z3 := HB.out.cell 3
 go_wp2_with fail
 go_loopw [3, 9] (fun rv i wr => ∃ j : Nat, j ≤ n /\ i = .int .i64 j /\ Hid (wr.ownsRow b0 9 1 rv j (tx ((textsJ v).take j))) /\ Hid (Below b0 w wr /\ b0 ≤ wr.heap.size)) (fun _ i _ => n - (intOf i).toNat)
 case atStart => exact ⟨0, by omega, rfl, Lib.hid (World.ownsRow_nil _ _ _ _), Lib.hid ⟨HW0.out.1, by have := HW0.out.2.1; omega⟩⟩
 case round =>
  clear z3 HB
  obtain ⟨j, hj, rfl, HO, HW⟩ := hrel
  by_cases hlt : j < n
  . obtain ⟨ad, rfl, hab, hcs⟩ := HR1.out.2 (by omega)
    obtain ⟨h0, kk, he, _, htv⟩ := HTR.out.at_ (i := j) (by have := HN.out; omega)
    obtain ⟨A4, c4, A5, c5, us2, ecs, _⟩ := htv
    have hcs' := fun j u hu => (HW.out.1.cell (show (ad.add j).block < b0 by rw [block_of_add, HW0.out.2.2]; exact hab)).trans (hcs j u hu)
    obtain ⟨cc0, cc1, cc2, cc3, cc4⟩ := cells5 hcs' ecs
    have HTK : Hid ((textsJ v).take (j + 1) = (textsJ v).take j ++ [h0.text]) := Lib.hid (by
      have hj2 : j < (textsJ v).length := by have := HLN.out; omega
      have e : (textsJ v)[j]? = some h0.text := by unfold textsJ; rw [List.getElem?_map, he]; rfl
      rw [List.take_succ_eq_append_getElem hj2]
      rw [List.getElem?_eq_getElem hj2] at e
      injection e with e
      rw [e])
    obtain ⟨A3, c3, e3, _⟩ := own_readsN HO.out
    subst e3
    have hwr := HW.out.2
    clear he ecs hcs hcs' hab
    go_upto_region 5 with fail
    obtain ⟨wa, hwa⟩ : ∃ wa, wa = wr.alloc (.cells #[.int .i64 h0.kind, .int .i64 h0.num, .string ⟨h0.text.toArray⟩, .slice A4 kk.len c4, .slice A5 h0.keys.length c5] 54) := ⟨_, rfl⟩
    obtain ⟨bn, hbn⟩ : ∃ bn, bn = wr.heap.size := ⟨_, rfl⟩
    have HBN : Hid (Blk wa bn 54 #[.int .i64 h0.kind, .int .i64 h0.num, .string ⟨h0.text.toArray⟩, .slice A4 kk.len c4, .slice A5 h0.keys.length c5]) := Lib.hid (by rw [hwa, hbn]; exact Blk.new _ _ _)
    have HOa : Hid (wa.ownsRow b0 9 1 (.slice A3 j c3) j (tx ((textsJ v).take j))) := Lib.hid (by rw [hwa]; exact World.ownsRow.alloc HO.out _)
    have HWa : Hid (Below b0 w wa /\ b0 ≤ wa.heap.size) := Lib.hid (by rw [hwa]; exact ⟨HW.out.1.alloc HW.out.2 _, by simp; omega⟩)
    rw [<- hwa, <- hbn]
    clear hwa hbn cc0 cc1 cc2 cc3 cc4 HO HW hwr
    have y2 := HBN.out.cell 2
    have hwr := HWa.out.2
    go_wp2_with (at_builtin; go_loud (refine wpList_append_any _ rfl _ _ 23 rfl b0 9 i0 (.string .empty) 1 16 Tryz.underlying23 hi hz0 hz1 hz2 rfl (by decide) (.slice A3 j c3) j (tx ((textsJ v).take j)) rfl (World.ownsRow.alloc HOa.out _) (wa.heap.size + 1) (some ⟨wa.heap.size, 0, none⟩) 1 1 [.string ⟨h0.text.toArray⟩] rfl ((Reads.of_block (heap_alloc_new _ _) rfl).more (by simp)) (by intro u hu; obtain rfl := List.mem_singleton.1 hu; rfl) (by unfold maxLen; omega) (by omega) (by simp; omega) ?_; intro v6 w6 q1 q2 q3; obtain ⟨A6, c6, e6, _⟩ := own_readsN q1; subst e6; have HO6 := Lib.hid q1; have HG6 := Lib.hid q2; clear q1 q2 q3))
    refine ⟨⟨j + 1, by omega, by push_cast; rfl, Lib.hid (by rw [HTK.out, tx_append]; exact HO6.out), Lib.hid ⟨(HWa.out.1.alloc hwr _).grown HG6.out (by simp; omega) (fun g e => (own_lt HOa.out e).1), Nat.le_trans hwr (Nat.le_trans (by simp) HG6.out.size)⟩⟩, ?_⟩
    show n - ((j : Int) + 1).toNat < n - ((j : Int)).toNat
    omega
  . obtain rfl : j = n := by omega
    go_wp2_with fail
    go_ret
    refine ⟨_, rfl, ?_, ?_⟩
    . have h1 := HO.out
      rw [<- HLN.out, List.take_length] at h1
      rw [<- HW0.out.2.2]
      exact h1
    . rw [<- HW0.out.2.2]; exact HW.out.1
end Js.Cf
end Go.Proofs.YtjohdaobhonioaaGreatDoor
namespace Go.Proofs.YtjohdaobhonioaaGreatDoor
open Go.RowKit Plain
theorem add_bytes (l m : List UInt8) (h : l.length + m.length ≤ 9223372036854775807) (w : World) : (Op.stringOp .add ⟨l.toArray⟩ ⟨m.toArray⟩).run Tryz.prog w = .ok (.string ⟨(l ++ m).toArray⟩) w := by
 rw [run_string_add_sum w _ _ (by simpa [ByteArray.size] using h), ByteArray.mk_append_mk]
theorem slice_digit (n : Nat) (h : n < 16) (i j : Int) (hi : i = n) (hj : j = n + 1) (w : World) :
  (Instr.slice 9 (.string ⟨#[48, 49, 50, 51, 52, 53, 54, 55, 56, 57, 97, 98, 99, 100, 101, 102]⟩) (some (.int .u8 i)) (some (.int .u8 j)) none).run Tryz.prog w = .ok (.string ⟨#[hexc n]⟩) w := by
 subst hi hj
 rw [run_slice_string w _ _ _ _ _ _ Tryz.underlying9 (by omega) (by omega) (by simp [ByteArray.size]; omega)]
 have key : ∀ m : Fin 16, (⟨#[48, 49, 50, 51, 52, 53, 54, 55, 56, 57, 97, 98, 99, 100, 101, 102]⟩ : ByteArray).extract ((m.val : Int).toNat) (((m.val : Int) + 1).toNat) = ⟨#[hexc m.val]⟩ := by decide
 exact congrArg (fun z => Result.ok (Value.string z) w) (key ⟨n, h⟩)
set_option maxHeartbeats 1000000 in
set_option maxRecDepth 100000 in
theorem refText_any (bs : List UInt8) (hlen : bs.length = 32) (w : World) :
  Calls Tryz.prog 61 #[.agg (Lib.byteCells bs).toArray] w fun e w' => e = .returned (.string ⟨(digText bs).toArray⟩) /\ Below w.heap.size w w' := by
 go_enter Tryz.func61, Tryz.ntmps61
 go_wp2
 go_loopw [3, 4] (fun s i wr => ∃ k : Nat, k ≤ 32 /\ i = .int .i64 k /\ s = .string ⟨(shaHead ++ hexAll (bs.take k)).toArray⟩ /\ wr.heap[w.heap.size]? = some (.cells (Lib.byteCells bs).toArray 40 (0, 0)) /\ Hid (Below w.heap.size w wr)) (fun _ i _ => 32 - (intOf i).toNat)
 case atStart => exact ⟨0, by omega, rfl, rfl, heap_alloc_new w _, Lib.hid ((Below.refl _ _).alloc (Nat.le_refl _) _)⟩
 case round =>
  obtain ⟨k, hk, rfl, rfl, hbox, hW⟩ := hrel
  by_cases hlt : k < 32
  . have hc : wr.cell? ⟨w.heap.size, k, none⟩ = some (.int .u8 (bs.getD k 0).toNat) := by
     rw [Lib.cell_of_heap hbox]; simp [Lib.byteCells, List.getElem?_eq_getElem (show k < bs.length by omega)]
    have HX : Hid (hexAll (bs.take (k + 1)) = hexAll (bs.take k) ++ hex2 (bs.getD k 0)) := Lib.hid (hexAll_take_getD bs k (by omega))
    generalize bs.getD k 0 = x at hc HX
    have hx : x.toNat < 256 := x.toNat_lt
    have hx1 : x.toNat / 16 < 16 := by omega
    have hx2 : x.toNat % 16 < 16 := by omega
    have hL : (shaHead ++ hexAll (bs.take k)).length ≤ 100 := by
     rw [List.length_append, hexAll_length, List.length_take]; simp [shaHead]; omega
    have HE : Hid (shaHead ++ hexAll (bs.take (k + 1)) = (shaHead ++ hexAll (bs.take k)) ++ [hexc (x.toNat / 16)] ++ [hexc (x.toNat % 16)]) := Lib.hid (by rw [HX.out]; simp [hex2])
    clear HX
    generalize shaHead ++ hexAll (bs.take k) = L at hL HE
    have a0 : (x.toNat : Int).tmod 16 = (x.toNat : Int) % 16 := IntWalk.rem_in _ _ (by omega)
    have a1 : IntKind.u8.wrap ((x.toNat : Int) / 16) = (x.toNat : Int) / 16 := IntWalk.u8_in _ (by omega)
    have a2 : IntKind.u8.wrap ((x.toNat : Int) / 16 + 1) = (x.toNat : Int) / 16 + 1 := IntWalk.u8_in _ (by omega)
    have a3 : IntKind.u8.wrap ((x.toNat : Int) % 16 + 1) = (x.toNat : Int) % 16 + 1 := IntWalk.u8_in _ (by omega)
    have s1 := fun wx => slice_digit (x.toNat / 16) hx1 ((x.toNat : Int) / 16) ((x.toNat : Int) / 16 + 1) (by omega) (by omega) wx
    have s2 := fun wx => slice_digit (x.toNat % 16) hx2 ((x.toNat : Int) % 16) ((x.toNat : Int) % 16 + 1) (by omega) (by omega) wx
    have c1 := fun wx => add_bytes L [hexc (x.toNat / 16)] (by simp only [List.length_cons, List.length_nil]; omega) wx
    have c2 := fun wx => add_bytes (L ++ [hexc (x.toNat / 16)]) [hexc (x.toNat % 16)] (by rw [List.length_append]; simp only [List.length_cons, List.length_nil]; omega) wx
    go_wp2_with fail
    go_quiet (fail)
    clear c1 c2 s1 s2 a0 a1 a2 a3
    go_wp2
    go_roundw
    case rel => exact ⟨k + 1, by omega, by go_num, by rw [HE.out]; simp, by simpa [World.drewN] using hbox, Lib.hid (below_drewN hW.out nq)⟩
    case measure => simp [intOf]; omega
  . have hk32 : k = 32 := by omega
    subst hk32
    go_wp2_with fail
    go_ret
    refine ⟨?_, hW.out⟩
    rw [List.take_of_length_le (by omega)]; rfl
#print axioms refText_any
end Go.Proofs.YtjohdaobhonioaaGreatDoor
namespace Go.Proofs.YtjohdaobhonioaaGreatDoor
open Go.RowKit Plain
def parseEnds (s : List UInt8) : Value :=
 match digParse s with
 | some d => .tuple #[.agg (Lib.byteCells d).toArray, .nilIface]
 | none => .tuple #[.agg (Lib.byteCells z32).toArray, .iface 110 (.int .i64 4)]
theorem hasPrefix_any (s p : ByteArray) (w : World) :
   Calls Tryz.prog 147 #[.string s, .string p] w fun e w' => e = .returned (.bool (Lib.hasPrefix s.data.toList p.data.toList)) /\ w = w' := by
 rw [<- Lib.hasPrefix_raw]
 by_cases h1 : p.size ≤ s.size
 . have h1' : (p.size : Int) ≤ s.size := by omega
   go_enter Tryz.func147, Tryz.ntmps147
   go_wp2
   all_goals (go_ret; refine ⟨?_, rfl⟩; simp [h1])
 . have h1' : ¬ (p.size : Int) ≤ s.size := by omega
   go_enter Tryz.func147, Tryz.ntmps147
   go_wp2
   all_goals (go_ret; exact ⟨rfl, rfl⟩)
theorem litCutPrefix_any (s p : ByteArray) (w : World) :
   Calls Tryz.prog 215 #[.string s, .string p] w fun e w' => e = .returned (.tuple #[.string ⟨(Lib.trimPrefix s.data.toList p.data.toList).toArray⟩, .bool (Lib.hasPrefix s.data.toList p.data.toList)]) /\ w = w' := by
 by_cases h1 : p.size ≤ s.size
 . cases h2 : ((s.extract 0 p.size).toList == p.toList)
   . have hh : Lib.hasPrefix s.data.toList p.data.toList = false := by rw [<- Lib.hasPrefix_raw, h2]; simp
     go_enter Tryz.func215, Tryz.ntmps215
     go_wp2_with (go_at_call 147; refine (hasPrefix_any _ _ _).mono ?_; rintro e w' ⟨rfl, rfl⟩; rw [hh])
     go_ret2
     refine ⟨?_, rfl⟩
     rw [Lib.trimPrefix_miss s p (by rw [h2]; simp), hh]
     rfl
   . have hh : Lib.hasPrefix s.data.toList p.data.toList = true := by rw [<- Lib.hasPrefix_raw, h2]; simp [h1]
     go_enter Tryz.func215, Tryz.ntmps215
     go_wp2_with (go_at_call 147; refine (hasPrefix_any _ _ _).mono ?_; rintro e w' ⟨rfl, rfl⟩; rw [hh])
     go_ret2
     refine ⟨?_, rfl⟩
     rw [Lib.trimPrefix_hit s p h1 h2, hh]
     rfl
 . have hh : Lib.hasPrefix s.data.toList p.data.toList = false := by rw [<- Lib.hasPrefix_raw]; simp [h1]
   go_enter Tryz.func215, Tryz.ntmps215
   go_wp2_with (go_at_call 147; refine (hasPrefix_any _ _ _).mono ?_; rintro e w' ⟨rfl, rfl⟩; rw [hh])
   go_ret2
   refine ⟨?_, rfl⟩
   rw [Lib.trimPrefix_miss s p (by simp [h1]), hh]
   rfl
theorem CutPrefix_any (s p : ByteArray) (w : World) :
  Calls Tryz.prog 144 #[.string s, .string p] w fun e w' => e = .returned (.tuple #[.string ⟨(Lib.trimPrefix s.data.toList p.data.toList).toArray⟩, .bool (Lib.hasPrefix s.data.toList p.data.toList)]) /\ w = w' := by
 go_enter Tryz.func144, Tryz.ntmps144
 go_wp2_with (go_at_call 215; refine (litCutPrefix_any _ _ _).mono ?_; rintro e w' ⟨rfl, rfl⟩)
 go_ret2
 exact ⟨rfl, rfl⟩
theorem nibble (a v : Nat) (hv : v < 16) (y : Int) (hy : y = v) : bits .or .u8 ((a : Int) * 16 % 256) y = (16 * (a : Int) + v) % 256 := by
 subst hy
 have h := nibble_or a v hv
 rw [IntKind.wrap_u8'] at h
 rw [u8_or _ _ (by omega) (by omega) (by omega) (by omega), Int.toNat_natCast, h]; omega
set_option maxHeartbeats 1000000 in
set_option maxRecDepth 100000 in
theorem Parse_any (s : ByteArray) (w : World) :
   Calls Tryz.prog 46 #[.string s] w fun e w' => e = .returned (parseEnds s.data.toList) /\ Below w.heap.size w w' := by
 go_enter Tryz.func46, Tryz.ntmps46
 go_wp2_with fail
 refine (CutPrefix_any _ _ _).mono ?_
 rintro e w' ⟨rfl, rfl⟩
 have ez : (#[Value.int .u8 0, .int .u8 0, .int .u8 0, .int .u8 0, .int .u8 0, .int .u8 0, .int .u8 0, .int .u8 0, .int .u8 0, .int .u8 0, .int .u8 0, .int .u8 0, .int .u8 0, .int .u8 0, .int .u8 0, .int .u8 0, .int .u8 0, .int .u8 0, .int .u8 0, .int .u8 0, .int .u8 0, .int .u8 0, .int .u8 0, .int .u8 0, .int .u8 0, .int .u8 0, .int .u8 0, .int .u8 0, .int .u8 0, .int .u8 0, .int .u8 0, .int .u8 0] : Array Value) = (Lib.byteCells z32).toArray := rfl
 rw [ez]
 clear ez
 generalize hw1 : (w.alloc (.cells (Lib.byteCells z32).toArray 40)).alloc (.cells (Lib.byteCells z32).toArray 40) = w1
 have hz1 : w1.heap[w.heap.size]? = some (.cells (Lib.byteCells z32).toArray 40 (0, 0)) := by rw [<- hw1]; exact heap_alloc2_old w _ _
 have hz2 : w1.heap[w.heap.size + 1]? = some (.cells (Lib.byteCells z32).toArray 40 (0, 0)) := by rw [<- hw1]; exact heap_alloc2_new w _ _
 have hbel : Hid (Below w.heap.size w w1) := Lib.hid (by rw [<- hw1]; exact ((Below.refl _ _).alloc (Nat.le_refl _) _).alloc (by simp) _)
 clear hw1
 by_cases hp : Lib.hasPrefix s.data.toList shaHead = true
 . have ht : Lib.trimPrefix s.data.toList shaHead = s.data.toList.drop 7 := by unfold Lib.trimPrefix; rw [if_pos hp]; rfl
   have ht' : Lib.trimPrefix s.data.toList [115, 104, 97, 50, 53, 54, 58] = s.data.toList.drop 7 := ht
   have hp' : Lib.hasPrefix s.data.toList [115, 104, 97, 50, 53, 54, 58] = true := hp
   have hspec : ∀ r, ((s.data.toList.drop 7).length = 64 -> allHex (s.data.toList.drop 7) 64 -> r = some (accL (s.data.toList.drop 7) 64)) -> (¬ ((s.data.toList.drop 7).length = 64 /\ allHex (s.data.toList.drop 7) 64) -> r = none) -> digParse s.data.toList = r := by
     intro r h1 h2
     unfold digParse
     by_cases hc : (s.data.toList.drop 7).length = 64 /\ allHex (s.data.toList.drop 7) 64
     . rw [if_pos ⟨hp, hc.1, hc.2⟩, h1 hc.1 hc.2]
     . rw [if_neg (fun h => hc h.2), h2 hc]
   have HS := Lib.hid hspec
   clear hspec
   rw [show (⟨#[115, 104, 97, 50, 53, 54, 58]⟩ : ByteArray).data.toList = [115, 104, 97, 50, 53, 54, 58] from rfl, ht', hp']
   clear ht ht' hp hp'
   generalize s.data.toList.drop 7 = T at HS
   generalize hq : digParse s.data.toList = q at HS
   have HQ := Lib.hid hq
   clear hq
   by_cases h64 : T.length = 64
   . have hT : (T.length : Int) = 64 := by omega
     have hTn : ¬ ((T.length : Int) ≠ 64) := by omega
     go_wp2_with fail
     go_loopw [23] (fun i wr => ∃ k : Nat, k ≤ 64 /\ i = .int .i64 k /\ Hid (allHex T k) /\ wr.heap[w.heap.size]? = some (.cells (Lib.byteCells z32).toArray 40 (0, 0)) /\ wr.heap[w.heap.size + 1]? = some (.cells (Lib.byteCells (accL T k)).toArray 40 (0, 0)) /\ Hid (Below w.heap.size w wr)) (fun i _ => 64 - (intOf i).toNat)
     case atStart => exact ⟨0, by omega, rfl, Lib.hid (fun i hi => absurd hi (by omega)), hz1, by rw [accL_zero]; exact hz2, hbel⟩
     case round =>
       clear hz1 hz2 hbel
       obtain ⟨k, hk, rfl, hall, hz1, hz2, hbel⟩ := hrel
       by_cases hlt : k < 64
       . have hkT : k < T.length := by omega
         have hcell : wr.cell? ⟨w.heap.size + 1, k / 2, none⟩ = some (.int .u8 (accD T k (k / 2)).toNat) := by
          rw [Lib.cell_of_heap hz2]
          have := accL_getD T k (k / 2) (by omega)
          simp only [Lib.byteCells, List.getElem?_toArray, List.getElem?_map]
          rw [List.getElem?_eq_getElem (by rw [accL_length]; omega)]
          simp only [List.getD, List.getElem?_eq_getElem (show k / 2 < (accL T k).length by rw [accL_length]; omega), Option.getD_some] at this
          simp [this]
         have hfr : wr.frozen? ⟨w.heap.size + 1, k / 2, none⟩ = false := Lib.frozen_of_heap hz2 _
         have hidx := run_index_list Tryz.underlying9 T k hkT
         have hlo := (T.getD k 0).toNat_lt
         cases hvc : hexv (T.getD k 0) with
         | none =>
          have HN : Hid (digParse s.data.toList = none) := Lib.hid (by
            rw [HQ.out]
            refine HS.out none (fun _ h2 => ?_) (fun _ => rfl)
            have := h2 k hlt
            rw [hvc] at this; cases this)
          unfold hexv at hvc
          generalize T.getD k 0 = c at hidx hvc hlo
          have h1 : ¬ (48 ≤ c.toNat /\ c.toNat ≤ 57) := fun h => by rw [if_pos h] at hvc; cases hvc
          have h2 : ¬ (97 ≤ c.toNat /\ c.toNat ≤ 102) := fun h => by rw [if_neg h1, if_pos h] at hvc; cases hvc
          clear hvc
          go_wp2_with (first | (refine wpList_build_as rfl 40 _ rfl (Lib.byteCells z32).toArray (by kernel_rfl) ?_) | (refine wpList_store_row rfl 40 _ _ rfl _ _ rfl rfl 40 _ hz1 info23 rfl (one_byteCells _) ?_))
          all_goals
            refine bodyPost_ret (results_row_tmp rfl _ _ _ 40 (Lib.byteCells z32).toArray _ _ rfl (setRow_heap _ _ _ _ _ _ hz1) Tryz.underlying40 rfl info23) rfl ⟨?_, setRow_below hbel.out (Nat.le_refl _) _⟩
            unfold parseEnds
            rw [HN.out]
            rfl
         | some v =>
          have HA : Hid (allHex T (k + 1)) := Lib.hid (fun i hi => by
            by_cases he : i = k
            . rw [he, hvc]; rfl
            . exact hall.out i (by omega))
          have HV : Hid (hv T k = v) := Lib.hid (by unfold hv; rw [hvc]; rfl)
          have HL : Hid (Lib.byteCells (accL T (k + 1)) = (Lib.byteCells (accL T k)).set (k / 2) (.int .u8 ((16 * ((accD T k (k / 2)).toNat : Int) + v) % 256))) := Lib.hid (by
            rw [accL_succ, HV.out]; simp [Lib.byteCells, List.map_set])
          clear HV HS HQ
          have ha := (accD T k (k / 2)).toNat_lt
          generalize accD T k (k / 2) = a at hcell HL ha
          generalize hL0 : Lib.byteCells (accL T k) = L at hz2 HL
          have HL0 := Lib.hid hL0
          clear hL0
          unfold hexv at hvc
          generalize T.getD k 0 = c at hidx hvc hlo
          have hcase : (48 ≤ c.toNat /\ c.toNat ≤ 57 /\ c.toNat = v + 48) ∨ (97 ≤ c.toNat /\ c.toNat ≤ 102 /\ c.toNat = v + 87) := by
            by_cases h1 : 48 ≤ c.toNat /\ c.toNat ≤ 57
            . rw [if_pos h1] at hvc; injection hvc with hvc; exact .inl ⟨h1.1, h1.2, by omega⟩
            . rw [if_neg h1] at hvc
              by_cases h2 : 97 ≤ c.toNat /\ c.toNat ≤ 102
              . rw [if_pos h2] at hvc; injection hvc with hvc; exact .inr ⟨h2.1, h2.2, by omega⟩
              . rw [if_neg h2] at hvc; cases hvc
          clear hvc
          rcases hcase with ⟨c1, c2, c3⟩ | ⟨c1, c2, c3⟩
          . have hor := nibble a.toNat v (by omega) ((c.toNat : Int) - 48) (by omega)
            clear c3
            go_wp2
            go_roundw
            case rel =>
              refine ⟨k + 1, by omega, by go_num, HA, ?_, ?_, Lib.hid (hbel.out.setCell (by simp) _)⟩
              . rw [heap_setCell_other _ _ _ _ (by simp)]; exact hz1
              . rw [heap_setCell_same _ _ _ _ _ _ hz2, HL.out]; simp
            case measure => simp [intOf]; omega
          . have hor := nibble a.toNat v (by omega) ((c.toNat : Int) - 87) (by omega)
            clear c3
            go_wp2
            go_roundw
            case rel =>
              refine ⟨k + 1, by omega, by go_num, HA, ?_, ?_, Lib.hid (hbel.out.setCell (by simp) _)⟩
              . rw [heap_setCell_other _ _ _ _ (by simp)]; exact hz1
              . rw [heap_setCell_same _ _ _ _ _ _ hz2, HL.out]; simp
            case measure => simp [intOf]; omega
       . have hk64 : k = 64 := by omega
         have HN : Hid (digParse s.data.toList = some (accL T 64)) := Lib.hid (by
          rw [HQ.out]
          exact HS.out _ (fun _ _ => rfl) (fun h => absurd ⟨h64, by rw [hk64] at hall; exact hall.out⟩ h))
         have hz3 : wr.heap[w.heap.size + 1]? = some (.cells (Lib.byteCells (accL T 64)).toArray 40 (0, 0)) := by rw [hk64] at hz2; exact hz2
         have hi3 : (Tryz.prog.info? 40).map (·.size) = some (Lib.byteCells (accL T 64)).toArray.size := by rw [info23]; simp [Lib.byteCells, accL_length]
         have hs3 : (Lib.byteCells z32).toArray.size = (Lib.byteCells (accL T 64)).toArray.size := by simp [Lib.byteCells, accL_length, z32]
         clear hk64 hz2 hall HS HQ
         go_wp2_with (first | (refine wpList_load_row rfl 40 _ rfl _ rfl 40 _ _ _ hz3 Tryz.underlying40 rfl hi3 ?_) | (refine wpList_store_row rfl 40 _ _ rfl _ _ rfl rfl 40 _ hz1 hi3 hs3 (one_byteCells _) ?_))
         refine bodyPost_ret (results_row_tmp rfl _ _ _ 40 (Lib.byteCells (accL T 64)).toArray _ _ rfl (setRow_heap _ _ _ _ _ _ hz1) Tryz.underlying40 rfl hi3) rfl ⟨?_, setRow_below hbel.out (Nat.le_refl _) _⟩
         unfold parseEnds
         rw [HN.out]
         rfl
   . have hTn : ((T.length : Int) != 64) = true := by rw [bne_iff_ne]; omega
     have HN : Hid (digParse s.data.toList = none) := Lib.hid (by rw [HQ.out]; exact HS.out none (fun h => absurd h h64) (fun _ => rfl))
     clear h64
     go_wp2_with (first | (refine wpList_build_as rfl 40 _ rfl (Lib.byteCells z32).toArray (by kernel_rfl) ?_) | (refine wpList_store_row rfl 40 _ _ rfl _ _ rfl rfl 40 _ hz1 info23 rfl (one_byteCells _) ?_))
     refine bodyPost_ret (results_row_tmp rfl _ _ _ 40 (Lib.byteCells z32).toArray _ _ rfl (setRow_heap _ _ _ _ _ _ hz1) Tryz.underlying40 rfl info23) rfl ⟨?_, setRow_below hbel.out (Nat.le_refl _) _⟩
     unfold parseEnds
     rw [HN.out]
     rfl
 . have hp' : Lib.hasPrefix s.data.toList [115, 104, 97, 50, 53, 54, 58] = false := by simpa [shaHead] using hp
   have HN : Hid (digParse s.data.toList = none) := Lib.hid (by unfold digParse; rw [if_neg (fun h => hp h.1)])
   clear hp
   go_wp2_with (first | (refine wpList_build_as rfl 40 _ rfl (Lib.byteCells z32).toArray (by kernel_rfl) ?_) | (refine wpList_store_row rfl 40 _ _ rfl _ _ rfl rfl 40 _ hz1 info23 rfl (one_byteCells _) ?_))
   go_wp2
   refine bodyPost_ret (results_row_tmp rfl _ _ _ 40 (Lib.byteCells z32).toArray _ _ rfl (setRow_heap _ _ _ _ _ _ hz1) Tryz.underlying40 rfl info23) rfl ⟨?_, setRow_below hbel.out (Nat.le_refl _) _⟩
   unfold parseEnds
   rw [HN.out]
   rfl
#print axioms Parse_any
end Go.Proofs.YtjohdaobhonioaaGreatDoor
