/-
  Parts of the proof: CfT, HexW, JsKi, JsQu.
-/
import Derived.Test.YtjohdaobhonioaaGreatDoorPkFo15
import Derived.Laws.RangeString
import Derived.Test.YtjohdaobhonioaaGreatDoorPkFo4
import Derived.Test.YtjohdaobhonioaaGreatDoorPkFo11
import Derived.Outline
import Derived.Lib.Hide
import Derived.Laws.Rows
import Derived.Test.YtjohdaobhonioaaGreatDoorPkFo8
import Derived.Test.YtjohdaobhonioaaGreatDoorPkFo0
import Derived.Test.YtjohdaobhonioaaGreatDoorPkFo6
import Derived.Test.YtjohdaobhonioaaGreatDoorPkFo1
import Derived.WalkLawsBesides
import Derived.Test.YtjohdaobhonioaaGreatDoorPkFo5
namespace Go.Proofs.YtjohdaobhonioaaGreatDoor
open Go.RowKit
namespace Js.Cf
theorem text_any (s : B) (w : World) : Calls Tryz.prog 39 #[.string ⟨s.toArray⟩] w fun x w' => x = .returned (.agg #[.int .i64 4, .int .i64 0, .string ⟨s.toArray⟩, .slice none 0 0, .slice none 0 0]) /\ Below w.heap.size w w' := by
 go_enter Tryz.func39, Tryz.ntmps39
 go_wp2_with fail
 (try simp only [Exit.inBlock, Exit.then])
 refine bodyPost_ret (results_cell_row rfl _ _ w.heap.size 54 _ (0, 0) _ rfl (heap_alloc_new _ _) Tryz.underlying54 rfl (by kernel_rfl)) rfl ?_
 exact ⟨rfl, (Below.refl _ _).alloc (Nat.le_refl _) _⟩
theorem setRow_same {w : World} {g : Nat} {t : TypeId} {cs : Array Value} (h : Blk w g t cs) (cs' : Array Value) : Blk (w.setRow g cs') g t cs' := by
 unfold Blk at h ⊢
 simp [World.setRow, Array.getElem?_modify, h]
def LS (w : World) (Bn : Nat) (ts : List B) (iv : Value) : Prop := ∃ vs, w.ownsRow Bn 54 5 iv ts.length vs /\ TR encJ w (fun _ => False) (ofL (ts.map tT)) vs
theorem LS.nil (w : World) (Bn : Nat) : LS w Bn [] (.slice none 0 0) := ⟨[], World.ownsRow_nil _ _ _ _, rfl⟩
theorem LS.kept {w w' : World} {Bn : Nat} {ts : List B} {iv : Value} (h : LS w Bn ts iv) (hk : ∀ b, Bn ≤ b -> b < w.heap.size -> w'.heap[b]? = w.heap[b]?) : LS w' Bn ts iv := by
 obtain ⟨vs, ho, ht⟩ := h
 exact ⟨vs, own_at ho fun b hb => hk b (own_lt ho hb).1 (own_lt ho hb).2, ht.kept fun p hp => hp.elim⟩
theorem LS.below {w w' : World} {Bn : Nat} {ts : List B} {iv : Value} (h : LS w Bn ts iv) (hb : Below w.heap.size w w') : LS w' Bn ts iv := h.kept fun b _ h2 => hb.block b h2
theorem LS.form {w : World} {Bn : Nat} {ts : List B} {iv : Value} (h : LS w Bn ts iv) : ∃ A c, iv = .slice A ts.length c := by
 obtain ⟨vs, ho, _⟩ := h
 obtain ⟨A, c, e, _⟩ := own_readsN ho
 exact ⟨A, c, e⟩
theorem LS.push {w w' : World} {Bn : Nat} {ts : List B} {t : B} {v' : Value} {vs : List Value} (ht : TR encJ w (fun _ => False) (ofL (ts.map tT)) vs) (ho : w'.ownsRow Bn 54 5 v' (ts.length + 1) (vs ++ jcells (tT t).1 (.slice none 0 0) (.slice none 0 0))) : LS w' Bn (ts ++ [t]) v' := by
 refine ⟨_, by rw [List.length_append]; exact ho, ?_⟩
 rw [List.map_append, List.map_cons, List.map_nil, ofL_snoc]
 refine TR.app (ht.kept fun p hp => hp.elim) ?_
 exact TV.tr (h := (tT t).1) (k := .nil) ⟨none, 0, none, 0, [], rfl, by simp [F.len], ⟨by simp [tT], fun h => by cases h⟩, RdS.none_, rfl, RdS.none_⟩
theorem LS.vt {w : World} {Bn : Nat} {ts : List B} {iv : Value} (h : LS w Bn ts iv) (hl : ts.length ≤ 4398046511104) : VT w Bn (tTexts ts) #[.int .i64 5, .int .i64 0, .string ⟨#[]⟩, iv, .slice none 0 0] := by
 obtain ⟨vs, ho, ht⟩ := h
 exact VT.list (l := ts.map tT) (by rw [List.length_map]; exact ho) ht (fun b h => h.elim) (by rw [List.length_map]; exact hl)
set_option maxHeartbeats 16000000 in
set_option maxRecDepth 100000 in
theorem list_any (ts : List B) (A0 : Option Addr) (n0 k0 : Nat) (w : World) (hr : Reads w w.heap.size 1 A0 n0 (tx ts)) (hn0 : n0 ≤ 1099511627776) :
  Calls Tryz.prog 138 #[.slice A0 n0 k0] w fun x w' => ∃ A c, x = .returned (.agg #[.int .i64 5, .int .i64 0, .string ⟨#[]⟩, .slice A ts.length c, .slice none 0 0]) /\ VT w' w.heap.size (tTexts ts) #[.int .i64 5, .int .i64 0, .string ⟨#[]⟩, .slice A ts.length c, .slice none 0 0] /\ Below w.heap.size w w' := by
 obtain ⟨j0, hjI, hy0, hy1, hy2⟩ := info_parts infoJson
 have hl0 : ts.length = n0 := by have := hr.1; rw [tx_length] at this; omega
 have HL0 := Lib.hid hl0
 have HR := Lib.hid hr
 clear hr hl0
 go_enter Tryz.func138, Tryz.ntmps138
 go_upto_region 2 with fail
 obtain ⟨b2, hb2⟩ : ∃ b2, b2 = w.heap.size := ⟨_, rfl⟩
 obtain ⟨wc, hwc⟩ : ∃ wc, wc = (w.alloc (.cells #[.int .i64 0, .int .i64 0, .string ⟨#[]⟩, .slice none 0 0, .slice none 0 0] 54)).alloc (.cells #[.int .i64 5, .int .i64 0, .string ⟨#[]⟩, .slice none 0 0, .slice none 0 0] 54) := ⟨_, rfl⟩
 have HC2 : Hid (Blk wc b2 54 #[.int .i64 0, .int .i64 0, .string ⟨#[]⟩, .slice none 0 0, .slice none 0 0]) := Lib.hid (by rw [hwc, hb2]; exact (Blk.new _ _ _).alloc _)
 have HC3 : Hid (Blk wc (b2 + 1) 54 #[.int .i64 5, .int .i64 0, .string ⟨#[]⟩, .slice none 0 0, .slice none 0 0]) := Lib.hid (by
  have := Blk.new (w.alloc (.cells #[.int .i64 0, .int .i64 0, .string ⟨#[]⟩, .slice none 0 0, .slice none 0 0] 54)) 54 #[.int .i64 5, .int .i64 0, .string ⟨#[]⟩, .slice none 0 0, .slice none 0 0]
  rw [hwc, hb2]; simpa using this)
 have HCB : Hid (Below b2 w wc /\ wc.heap.size = b2 + 2) := Lib.hid (by rw [hwc, hb2]; exact ⟨((Below.refl _ _).alloc (Nat.le_refl _) _).alloc (by simp) _, by simp⟩)
 rw [<- hwc, <- hb2]
 rw [<- hb2] at HR
 have HB2W : Hid (b2 = w.heap.size) := Lib.hid hb2
 clear hwc hb2
 go_wp2_with fail
 go_loopw [9] (fun i wr => ∃ (j : Nat) (iv : Value), j ≤ n0 /\ i = .int .i64 j /\ Hid (Blk wr b2 54 #[.int .i64 0, .int .i64 0, .string ⟨#[]⟩, .slice none 0 0, .slice none 0 0]) /\ Hid (Blk wr (b2 + 1) 54 #[.int .i64 5, .int .i64 0, .string ⟨#[]⟩, iv, .slice none 0 0]) /\ Hid (LS wr (b2 + 2) (ts.take j) iv) /\ Hid (Below b2 w wr /\ b2 + 2 ≤ wr.heap.size)) (fun i _ => n0 - (intOf i).toNat)
 case atStart => exact ⟨0, _, by omega, rfl, HC2, HC3, Lib.hid (LS.nil _ _), Lib.hid ⟨HCB.out.1, by rw [HCB.out.2]; exact Nat.le_refl _⟩⟩
 case round =>
  clear HC2 HC3 HCB
  obtain ⟨j, iv, hj, rfl, HB2, HB3, HLS, HW⟩ := hrel
  by_cases hlt : j < n0
  . obtain ⟨ad, u, rfl, _, hu, hc⟩ := (HR.out.below HW.out.1).at_ hlt
    have hlt2 : j < ts.length := by have := HL0.out; omega
    obtain rfl := tx_get hu hlt2
    have HTK : Hid (ts.take (j + 1) = ts.take j ++ [ts.getD j []] /\ (ts.take j).length = j) := Lib.hid ⟨by rw [List.take_succ_eq_append_getElem hlt2]; simp [List.getD, List.getElem?_eq_getElem hlt2], by rw [List.length_take]; omega⟩
    generalize ts.getD j [] = x at hc hu HTK
    clear hu
    obtain ⟨A1, c1, eiv⟩ := HLS.out.form
    rw [HTK.out.2] at eiv
    subst eiv
    obtain ⟨vs, ho, ht⟩ := HLS.out
    have HO : Hid (wr.ownsRow (b2 + 2) 54 5 (.slice A1 j c1) j vs) := Lib.hid (by rw [HTK.out.2] at ho; exact ho)
    have HT := Lib.hid ht
    clear ho ht HLS
    go_upto_region 5 with fail
    have z3 := HB3.out.cell 3
    have hsz := HW.out.2
    refine wp_region_R (S := (fun wy => wy.cell? ⟨b2 + 1, 3, none⟩ = some (.slice A1 j c1))) 7 (by kernel_rfl) z3 (fun hHeld => ?_)
    refine tkR 0 (hS := z3) (h := ?_)
    try simp only [Act.put, List.setIfInBounds_toArray, List.set_cons_zero, List.set_cons_succ]
    refine tkR 1 (hS := z3) (h := ?_)
    try simp only [Act.put, List.setIfInBounds_toArray, List.set_cons_zero, List.set_cons_succ]
    refine tkR 2 (hS := z3) (h := ?_)
    try simp only [Act.put, List.setIfInBounds_toArray, List.set_cons_zero, List.set_cons_succ]
    refine wpAnyR_ready (rs := [3]) (by kernel_rfl) (by simp) ?_
    refine rdyR (fun K hK => ?_) AllReadyR.nil
    rw [if_pos (by rfl)]
    go_simp
    refine (text_any x _).mono ?_
    rintro y w1 ⟨rfl, hb1⟩
    have hb1 : Below wr.heap.size wr w1 := ((Below.refl wr.heap.size wr).drew).trans hb1
    have HB21 := Lib.hid (HB2.out.below hb1 HB2.out.lt)
    have HB31 := Lib.hid (HB3.out.below hb1 HB3.out.lt)
    have HO1 := Lib.hid (own_kept HO.out hb1)
    have HW1 : Hid (Below b2 w w1 /\ b2 + 2 ≤ w1.heap.size) := Lib.hid ⟨HW.out.1.trans (hb1.mono (by omega)), by have := hb1.size; omega⟩
    have z3a := HB31.out.cell 3
    refine hK.out _ _ (fun _ => z3a) (fun _ => ?_)
    clear hK hb1 z3 hc HB2 HB3 HO HW hHeld
    try simp only [Act.put, List.setIfInBounds_toArray, List.set_cons_zero, List.set_cons_succ]
    refine oneR 4 (fun K hK => ?_)
    rw [if_pos (by rfl)]
    go_simp
    refine hK.out _ _ (fun _ => (HB31.out.alloc _).cell 3) (fun _ => ?_)
    clear hK
    try simp only [Act.put, List.setIfInBounds_toArray, List.set_cons_zero, List.set_cons_succ]
    refine oneR 5 (fun K hK => ?_)
    rw [if_pos (by rfl)]
    refine wp_append_any (P := Tryz.prog) _ _ _ 52 rfl (b2 + 2) 54 j0 _ 5 80 Tryz.underlying52 hjI hy0 hy1 hy2 rfl (by decide) (.slice A1 j c1) j vs rfl (World.ownsRow.alloc HO1.out _) (w1.heap.size + 1) (some ⟨w1.heap.size, 0, none⟩) 1 1 [.int .i64 4, .int .i64 0, .string ⟨x.toArray⟩, .slice none 0 0, .slice none 0 0] rfl ((Reads.of_block (heap_alloc_new _ _) rfl).more (by simp)) (by simp [Value.oneCell']) (by unfold maxLen; omega) (by omega) (by have := HW1.out.2; simp; omega) ?_
    intro v2 w2 g1 g2 g3
    obtain ⟨A2, c2, e2, _⟩ := own_readsN g1
    subst e2
    have HO2 := Lib.hid g1
    have HB22 := Lib.hid ((HB21.out.alloc _).grown g2 (fun e => by have := (own_lt HO1.out e.symm).1; omega))
    have HB32 := Lib.hid ((HB31.out.alloc _).grown g2 (fun e => by have := (own_lt HO1.out e.symm).1; omega))
    have HW2 : Hid (Below b2 w w2 /\ b2 + 2 ≤ w2.heap.size) := Lib.hid ⟨(HW1.out.1.alloc (by have := HW1.out.2; omega) _).grown g2 (by have := HW1.out.2; simp; omega) (fun g e => by have := (own_lt HO1.out e).1; omega), Nat.le_trans HW1.out.2 (Nat.le_trans (by simp) g2.size)⟩
    refine hK.out _ _ (fun _ => HB32.out.cell 3) (fun _ => ?_)
    clear hK g1 g2 g3
    try simp only [Act.put, List.setIfInBounds_toArray, List.set_cons_zero, List.set_cons_succ]
    refine tkR 6 (hS := (HB32.out.cell 3)) (h := ?_)
    try simp only [Act.put, List.setIfInBounds_toArray, List.set_cons_zero, List.set_cons_succ]
    refine oneR 7 (fun K hK => ?_)
    rw [if_pos (by rfl)]
    have k3 := HB32.out.cell 3
    have l3 := HB32.out.frozen 3
    go_simp
    refine hK.out _ _ (fun h => absurd rfl h) (fun _ => ?_)
    clear hK k3 l3
    try simp only [Act.put]
    refine wpAnyR_done (by kernel_rfl) ?_ _
    go_wp2_with fail
    refine ⟨⟨j + 1, .slice A2 (j + 1) c2, by omega, by push_cast; rfl, Lib.hid (HB22.out.far (by show b2 ≠ b2 + 1; omega) _), Lib.hid (HB32.out.set_ 3 _), Lib.hid ?_, Lib.hid ⟨Below.setCell HW2.out.1 (by show b2 ≤ b2 + 1; omega) _, by simp; exact HW2.out.2⟩⟩, ?_⟩
    . rw [HTK.out.1]
      exact (LS.push HT.out (by rw [HTK.out.2]; exact HO2.out)).kept (fun b hb _ => Below.heap_setCell w2 ⟨b2 + 1, 3, none⟩ _ b (by show b ≠ b2 + 1; omega))
    . show n0 - ((j : Int) + 1).toNat < n0 - ((j : Int)).toNat
      omega
  . obtain rfl : j = n0 := by omega
    obtain ⟨A1, c1, eiv⟩ := HLS.out.form
    rw [<- HL0.out, List.take_length] at eiv
    subst eiv
    have x0 := HB3.out.cell 0
    have x1 := HB3.out.cell 1
    have x2 := HB3.out.cell 2
    have x3 := HB3.out.cell 3
    have x4 := HB3.out.cell 4
    have hsz := HW.out.2
    have hi5 : (Tryz.prog.info? 54).map (·.size) = some 5 := by kernel_rfl
    go_wp2_with (refine wpList_store_row rfl 54 _ _ rfl _ _ rfl rfl 54 _ HB2.out (by simpa using hi5) (by simp) (by simp [Value.oneCell']) ?_)
    obtain ⟨w2, hw2⟩ : ∃ w2, w2 = wr.setRow b2 #[.int .i64 5, .int .i64 0, .string ⟨#[]⟩, .slice A1 ts.length c1, .slice none 0 0] := ⟨_, rfl⟩
    have H22 : Hid (Blk w2 b2 54 #[.int .i64 5, .int .i64 0, .string ⟨#[]⟩, .slice A1 ts.length c1, .slice none 0 0]) := Lib.hid (by rw [hw2]; exact setRow_same HB2.out _)
    have HF : Hid (VT w2 w.heap.size (tTexts ts) #[.int .i64 5, .int .i64 0, .string ⟨#[]⟩, .slice A1 ts.length c1, .slice none 0 0] /\ Below w.heap.size w w2) := Lib.hid (by
      have h1 := HLS.out
      rw [<- HL0.out, List.take_length] at h1
      have h2 : LS w2 (b2 + 2) ts (.slice A1 ts.length c1) := h1.kept fun b hb _ => by rw [hw2]; exact setRow_other wr b2 b _ (by omega)
      refine ⟨(h2.vt (by have := HL0.out; omega)).less (by have := HB2W.out; omega), ?_⟩
      have h3 := HW.out.1
      rw [<- HB2W.out, hw2]
      exact setRow_below h3 (Nat.le_refl _) _)
    rw [<- hw2]
    clear hw2 x0 x1 x2 x3 x4
    (try simp only [Exit.inBlock, Exit.then])
    refine bodyPost_ret (results_cell_row rfl _ _ b2 54 _ (0, 0) _ rfl H22.out Tryz.underlying54 rfl (by simpa using hi5)) rfl ?_
    exact ⟨A1, c1, rfl, HF.out⟩
end Js.Cf
end Go.Proofs.YtjohdaobhonioaaGreatDoor
namespace Go.Proofs.YtjohdaobhonioaaGreatDoor
open Go.RowKit Plain
theorem info23 : (Tryz.prog.info? 40).map (·.size) = some 32 := by kernel_rfl
theorem part_bytes (bs : List UInt8) (k : Nat) (h : k < bs.length) (wx : World) : (part 5 (Lib.byteCells bs).toArray k).run Tryz.prog wx = .ok (.int .u8 (bs.getD k 0).toNat) wx := by
 have ha : (isAgg 5).run Tryz.prog wx = .ok false wx := by
  unfold isAgg; rw [Sem.run_bind, run_underlying Tryz.underlying5 wx]; rfl
 unfold part
 rw [Sem.run_bind, ha]
 simp [Lib.byteCells, List.getElem?_eq_getElem h]
theorem index_bytes {T n : Nat} (hT : Tryz.prog.underlying T = some (.array n 5)) (bs : List UInt8) (hlen : bs.length = n) (k : Nat) (h : k < n) (wx : World) :
  (Instr.index T (.agg (Lib.byteCells bs).toArray) (.int .i64 k)).run Tryz.prog wx = .ok (.int .u8 (bs.getD k 0).toNat) wx := by
 have hs : (sizeOf 5).run Tryz.prog wx = .ok 1 wx := by kernel_rfl
 unfold Instr.index
 simp only [asIntOf, Sem.run_bind, Sem.run_pure, Result.andThen_ok, run_underlying hT]
 rw [if_pos ⟨by omega, by omega⟩]
 simp only [Sem.run_bind, hs, Result.andThen_ok, Nat.mul_one, Int.toNat_natCast]
 exact part_bytes bs k (by omega) wx
set_option maxHeartbeats 1000000 in
set_option maxRecDepth 100000 in
theorem Text_any (bs : List UInt8) (hlen : bs.length = 32) (w : World) :
  Calls Tryz.prog 40 #[.agg (Lib.byteCells bs).toArray] w fun e w' => e = .returned (.string ⟨(digText bs).toArray⟩) /\ Below w.heap.size w w' := by
 go_enter Tryz.func40, Tryz.ntmps40
 go_wp2_with fail
 have hb0 := Bd.fresh (w.alloc (.cells (Lib.byteCells bs).toArray 40))
 simp only [World.size_alloc] at hb0
 refine (writeString_b _ _ _ _ hb0 (by simp [ByteArray.size])).mono ?_
 rintro e w1 ⟨rfl, h1, hk1⟩
 have hbox : w1.heap[w.heap.size]? = some (.cells (Lib.byteCells bs).toArray 40 (0, 0)) := by
  rw [hk1.below.block _ (by omega)]; exact heap_alloc2_old w _ _
 have hbel : Below w.heap.size w w1 := (((Below.refl _ _).alloc (Nat.le_refl _) _).alloc (by simp) _).trans (hk1.below.mono (by omega))
 go_wp2_with (refine wpList_load_row rfl 40 _ rfl _ rfl 40 _ _ _ hbox Tryz.underlying40 rfl (by rw [info23]; simp [Lib.byteCells, hlen]) ?_)
 clear hb0 hk1 hbox
 have H1 : Hid (Bd (w.heap.size + 1) (shaHead ++ hexAll (bs.take 0)) w1) := h1
 have HB : Hid (Below w.heap.size w w1) := hbel
 clear h1 hbel
 have hidx : ∀ (k : Nat) (_ : k < 32) (wx : World), (Instr.index 40 (.agg (Lib.byteCells bs).toArray) (.int .i64 k)).run Tryz.prog wx = .ok (.int .u8 (bs.getD k 0).toNat) wx :=
  fun k h wx => index_bytes Tryz.underlying40 bs hlen k h wx
 go_loopw [8] (fun i wr => ∃ k : Nat, k ≤ 32 /\ i = .int .i64 k /\ Hid (Bd (w.heap.size + 1) (shaHead ++ hexAll (bs.take k)) wr) /\ Hid (Below w.heap.size w wr)) (fun i _ => 32 - (intOf i).toNat)
 case atStart => exact ⟨0, by omega, rfl, H1, HB⟩
 case round =>
  obtain ⟨k, hk, rfl, hB, hW⟩ := hrel
  by_cases hlt : k < 32
  . have hi := hidx k hlt
    have HX : Hid (hexAll (bs.take (k + 1)) = hexAll (bs.take k) ++ hex2 (bs.getD k 0)) := Lib.hid (hexAll_take_getD bs k (by omega))
    generalize bs.getD k 0 = x at hi HX
    clear hidx
    have hx : x.toNat < 256 := x.toNat_lt
    have hx1 : x.toNat / 16 < 16 := by omega
    have hx2 : x.toNat % 16 < 16 := by omega
    have hL : (shaHead ++ hexAll (bs.take k)).length ≤ 100 := by
     rw [List.length_append, hexAll_length, List.length_take]; simp [shaHead]; omega
    go_wp2_with fail
    rw [dig_at _ hx1]
    refine (writeByte_b _ _ _ _ hB.out (by omega)).mono ?_
    rintro e w2 ⟨rfl, h2, hk2⟩
    go_wp2_with fail
    rw [dig_at _ hx2]
    refine (writeByte_b _ _ _ _ h2 (by rw [List.length_append]; simp only [List.length_cons, List.length_nil]; omega)).mono ?_
    rintro e w3 ⟨rfl, h3, hk3⟩
    have H3 : Hid (Bd (w.heap.size + 1) (shaHead ++ hexAll (bs.take (k + 1))) w3) := Lib.hid (by
     rw [HX.out]; simpa [hex2] using h3)
    have HW : Hid (Below w.heap.size w w3) := hW.out.trans ((hk2.trans hk3).below.mono (by omega))
    clear h2 h3 hk2 hk3
    go_wp2
    go_roundw
    case rel => exact ⟨k + 1, by omega, by go_num, H3, HW⟩
    case measure => simp [intOf]; omega
  . go_wp2_with fail
    have hk32 : k = 32 := by omega
    subst hk32
    refine (string_b _ _ _ hB.out).mono ?_
    rintro e w2 ⟨rfl, h2, hk2⟩
    go_wp2
    go_ret
    refine ⟨?_, hW.out.trans (hk2.below.mono (by omega))⟩
    rw [List.take_of_length_le (by omega)]; rfl
#print axioms Text_any
end Go.Proofs.YtjohdaobhonioaaGreatDoor
namespace Go.Proofs.YtjohdaobhonioaaGreatDoor
open Go.RowKit Go.Maps Go.Sort Go.Shelf
namespace Js
theorem zeroInt (w : World) : (zeroValue 3).run Tryz.prog w = .ok (.int .i64 0) w := by kernel_rfl
def Idx (w : World) (bm N : Nat) (ks : List (List UInt8)) : Prop :=
 ∃ D : DataW Unit, w.ownsMap Tryz.prog 9 (plainElem Tryz.prog 3) bm N D /\ Maps.IsMap D /\ (∀ n, Maps.has D (.string n) = decide (n ∈ ks)) /\ ∀ (i : Nat) (x : List UInt8), ks[i]? = some x -> D.atKey (.string x) (.lit (.int .i64 0)) = .lit (.int .i64 (i : Int))
section
variable {w w' : World} {bm N : Nat} {ks : List (List UInt8)}
theorem Idx.lt (h : Idx w bm N ks) : bm < w.heap.size := by obtain ⟨D, h, _⟩ := h; exact h.lt
theorem Idx.block (h : Idx w bm N ks) (hk : w'.heap[bm]? = w.heap[bm]?) : Idx w' bm N ks := by
 obtain ⟨D, ⟨es, clock, hb, r⟩, r2⟩ := h
 exact ⟨D, ⟨es, clock, hk.trans hb, r⟩, r2⟩
theorem Idx.alloc (h : Idx w bm N ks) (o : Obj) : Idx (w.alloc o) bm N ks := h.block (Below.heap_alloc w o bm h.lt)
theorem Idx.drew (h : Idx w bm N ks) : Idx w.drew bm N ks := h
theorem Idx.made (w : World) : Idx (w.alloc (.map #[] 0)) w.heap.size 0 [] :=
 ⟨.map [], World.ownsMap_made _ _ _ _, Maps.isMap_empty, fun _ => rfl, fun i x h => by simp at h⟩
theorem Idx.look {T : TypeId} (h : Idx w bm N ks) (ht : Tryz.prog.underlying T = some (.map 9 3)) {i : Nat} {n : List UInt8} (hi : ks[i]? = some n) (hn : n.length ≤ 140737488355328) :
  (Instr.lookup T (.map (some bm)) (.string ⟨n.toArray⟩) false).run Tryz.prog w = .ok (.int .i64 i) w := by
 obtain ⟨D, h, _, _, hf⟩ := h
 obtain ⟨c, hrun, hat, _⟩ := h.lookup_int (Maps.string_keyed Tryz.underlying9) ht Tryz.underlying3 (zeroInt w) (seenKey Tryz.underlying9 n hn)
 rw [hf i n hi] at hat
 have h1 := DataW.lit.inj hat
 have h2 : (i : Int) = c := (Lit.int.inj h1).2
 rw [hrun, h2]
theorem wpList_idx {T : TypeId} {ops : Array Oper} {rest : List Oper} {o : Oper} {a : Act} {Q : Exit -> Act -> World -> Prop}
   (hg : o.guard = none) (m x v : Operand) (hop : o.op = Op.mapUpdate T m x v) (hm : a.eval m = .map (some bm)) (h : Idx w bm N ks) (ht : Tryz.prog.underlying T = some (.map 9 3)) (hN : N ≤ 1099511627776) (k : List UInt8) (hk : k ∉ ks) (hks : ks.length ≤ 1099511627776)
   (hx : a.eval x = .string ⟨k.toArray⟩) (hv : a.eval v = .int .i64 ks.length) (hkl : k.length ≤ 140737488355328)
   (hK : ∀ w', Idx w' bm (N + 1) (ks ++ [k]) -> w.grownBy w' (some bm) -> wpList Tryz.prog ops Q rest (a.put o.dst undef) w') : wpList Tryz.prog ops Q (o :: rest) a w := by
 obtain ⟨D, ho, hD, hh, hf⟩ := h
 have hw : (Lit.int .i64 (ks.length : Int)).wf = true := by
   simp only [Lit.wf, IntKind.min, IntKind.max, IntKind.signed, IntKind.bits, Bool.and_eq_true, decide_eq_true_eq]
   omega
 refine wpList_mapUpdate_own w hg m x v T hop 9 3 (Maps.string_keyed Tryz.underlying9) ht (plainElem Tryz.prog 3) bm N D hm ho (by unfold maxLen; omega) _ _ (.string k) hx hv (seenKey Tryz.underlying9 k hkl) _ _ (plainElem_int Tryz.underlying3 hw) fun w' h1 h2 => hK w' ⟨_, h1, hD.put _ _, fun n => ?_, fun i y hy => ?_⟩ h2
 . by_cases e : k = n
   . subst e
     rw [Maps.has_put_same hD (by trivial)]
     simp
   . rw [Maps.has_put_other (by simpa using fun h => e h.symm), hh n]
     have : ¬ n = k := fun h => e h.symm
     simp [this]
 . by_cases e : k = y
   . subst e
     rw [Maps.atKey_put_same hD (by trivial)]
     have hi : i = ks.length := by
       rcases Nat.lt_trichotomy i ks.length with h1 | h1 | h1
       . rw [List.getElem?_append_left h1] at hy
         exact absurd (List.mem_of_getElem? hy) hk
       . exact h1
       . rw [List.getElem?_eq_none (by simp; omega)] at hy; cases hy
     rw [hi]
   . rw [Maps.atKey_put_other (by simpa using fun h => e h.symm)]
     refine hf i y ?_
     rcases Nat.lt_or_ge i ks.length with h1 | h1
     . rwa [List.getElem?_append_left h1] at hy
     . rw [List.getElem?_append_right h1] at hy
       cases hj : i - ks.length with
       | zero => rw [hj] at hy; simp at hy; exact absurd hy e
       | succ j => rw [hj] at hy; simp at hy
theorem Idx.keys (h : Idx w bm N ks) (hn : ks.Nodup) : ∃ D : DataW Unit, w.ownsMap Tryz.prog 9 (plainElem Tryz.prog 3) bm N D /\ ks.Perm (strKeys D) /\ Maps.size D = ks.length := by
 obtain ⟨D, ho, hD, hh, _⟩ := h
 obtain ⟨es, rfl, hpw, _⟩ := ho.entries (Maps.string_keyed Tryz.underlying9)
 obtain ⟨es', e', hko⟩ := ho.keysOf
 obtain rfl : es = es' := by simpa using e'
 have hp : ks.Perm (strKeys (.map es : DataW Unit)) := perm_strKeys hpw (fun p hp => by obtain ⟨v, hv⟩ := hko p hp; obtain ⟨x, _, hx, _⟩ := Maps.keyOf_str Tryz.underlying9 hv; exact ⟨x, hx⟩) hn (fun x => by rw [hh x]; simp)
 refine ⟨_, ho, hp, ?_⟩
 have := hp.length_eq
 rw [this]
 simp [strKeys, Maps.size]
end
theorem sorts95 (m : Nat) : AnyZ.SortsIn Tryz.prog sorted95_ren Fence.wide m :=
 ⟨fun blk off cap ss W hH hblk hsz => callsIn_wide.2 (AnyM.slices_Sort_string sort139 blk off cap ss W hH hblk hsz),
  fun p cap W => callsIn_wide.2 (AnyM.slices_Sort_string_none sort139 p cap W)⟩
theorem keys_any (bm : Nat) (w : World) : Calls Tryz.prog 211 #[.map (some bm)] w fun x w' => x = .returned (.func (.func 248) #[] #[.pointer (some ⟨w.heap.size, 0, none⟩)]) /\ w' = w.alloc (.cells #[.map (some bm)] 331) :=
 (callsIn_wide (n := 5)).1 (AnyZ.keys_in keys96 Fence.wide 5 trivial rfl (some bm) w)
theorem sorted_any {bm N : Nat} {ks : List (List UInt8)} {w : World} (h : Idx w bm N ks) (hn : ks.Nodup) (hl : ks.length ≤ 1099511627776) :
  Calls Tryz.prog 210 #[.func (.func 248) #[] #[.pointer (some ⟨w.heap.size, 0, none⟩)]] (w.alloc (.cells #[.map (some bm)] 331)) fun x w' =>
   ∃ (v : Value) (ss : List (List UInt8)), x = .returned v /\ ss.Perm ks /\ w'.ownsRow (w.heap.size + 1) 9 1 v ss.length (tx (ss.mergeSort (fun x y => decide (x ≤ y)))) /\ Below (w.heap.size + 1) (w.alloc (.cells #[.map (some bm)] 331)) w' := by
 obtain ⟨D, hown, hp, hsz⟩ := h.keys hn
 have hbl := hown.lt
 have hseq : SeqGives Fence.wide 2 Tryz.prog 248 #[.pointer (some ⟨w.heap.size, 0, none⟩)] encStr (fun ss => ss.Perm (strKeys D)) (Maps.size D) (w.alloc (.cells #[.map (some bm)] 331)) :=
  AnyZ.keys_gives (ρ := keys96_ren) { keys96 with } Fence.wide _ trivial rfl (by omega) w.heap.size bm N D _ (by simp) (by simp) (by
   obtain ⟨es, clock, hb, Ft, hs, hD⟩ := hown
   exact ⟨es, clock, (Below.heap_alloc _ _ bm hbl).trans hb, Ft, hs, hD⟩)
 refine (callsIn_wide (n := 5)).1 ((AnyZ.sorted_in sorted95 Fence.wide 5 trivial trivial trivial trivial rfl (by omega) (sorts95 _) (enters_of Tryz.func247 (by kernel_rfl) rfl) 248 #[.pointer (some ⟨w.heap.size, 0, none⟩)] trivial (enters_of Tryz.func248 (by kernel_rfl) rfl) _ _ (by rw [hsz]; unfold maxLen; omega) (by rw [hsz]; omega) _ hseq).mono ?_)
 rintro e w' ⟨v, ss, rfl, hS, hrow, hnil, hb⟩
 refine ⟨v, ss, rfl, hS.trans hp.symm, ?_, by simpa using hb⟩
 have hsz1 : (w.alloc (.cells #[.map (some bm)] 331)).heap.size = w.heap.size + 1 := by simp
 rw [<- hsz1]
 exact hrow
end Js
end Go.Proofs.YtjohdaobhonioaaGreatDoor
namespace Go.Proofs.YtjohdaobhonioaaGreatDoor
open Go.RowKit
namespace Js
theorem dig_at (n : Nat) (h : n < 16) : (⟨#[48, 49, 50, 51, 52, 53, 54, 55, 56, 57, 97, 98, 99, 100, 101, 102]⟩ : ByteArray)[n]'(h) = hexc n := by
 have key : ∀ m : Fin 16, (⟨#[48, 49, 50, 51, 52, 53, 54, 55, 56, 57, 97, 98, 99, 100, 101, 102]⟩ : ByteArray)[m.val]'(m.isLt) = hexc m.val := by decide
 exact key ⟨n, h⟩
-- <
set_option maxHeartbeats 4000000 in
set_option maxRecDepth 100000 in
theorem quote_any (b : Nat) (l s : List UInt8) (w : World) (hb : Bd b l w) (hlen : l.length + 6 * s.length + 2 ≤ 140737488355328) :
  Calls Tryz.prog 209 #[.pointer (some ⟨b, 0, none⟩), .string ⟨s.toArray⟩] w fun x w' => x = .returned (.tuple #[]) /\ Bd b (l ++ quoted s) w' /\ KeepB b w w' := by
 have HB := Lib.hid hb
 clear hb
 go_enter Tryz.func209, Tryz.ntmps209
 go_wp2_with fail
 refine (writeByte_b b l 34 _ HB.out (by omega)).mono ?_
 rintro e1 w1 ⟨rfl, hB1, hk1⟩
 have HB1 := Lib.hid hB1
 have HK1 := Lib.hid hk1
 clear hB1 hk1 HB
 go_wp2_with fail
 go_loopw [10] (fun i wr => ∃ k : Nat, k ≤ s.length /\ i = .int .i64 k /\ Hid (Bd b (l ++ 34 :: (s.take k).flatMap qc) wr) /\ Hid (KeepB b w wr)) (fun i _ => s.length - (intOf i).toNat)
 case atStart => exact ⟨0, by omega, rfl, Lib.hid (by simpa using HB1.out), HK1⟩
 case round =>
  clear HB1 HK1
  obtain ⟨k, hk, rfl, HB, HK⟩ := hrel
  by_cases hlt : k < s.length
  . have hidx := run_index_list Tryz.underlying9 s k hlt
    have HX : Hid (s.take (k + 1) = s.take k ++ [s.getD k 0]) := Lib.hid (by rw [List.take_succ_eq_append_getElem hlt]; simp [List.getD, List.getElem?_eq_getElem hlt])
    have hfl : (l ++ 34 :: (s.take k).flatMap qc).length ≤ l.length + 6 * k + 1 := by
      have := flat_len (s.take k)
      rw [List.length_take] at this
      rw [List.length_append, List.length_cons]
      omega
    generalize s.getD k 0 = c at hidx HX
    have HE : Hid (∀ wx, Bd b ((l ++ 34 :: (s.take k).flatMap qc) ++ qc c) wx -> Bd b (l ++ 34 :: (s.take (k + 1)).flatMap qc) wx) := Lib.hid (fun wx h => by
      rw [HX.out, List.flatMap_append]
      simpa using h)
    generalize l ++ 34 :: (s.take k).flatMap qc = m at HB hfl HE
    by_cases h34 : c = 34
    . have q1 : ((c.toNat : Int) == 34) = true := b8t h34
      have HQ : Hid (qc c = [92, c]) := Lib.hid (by unfold qc; rw [if_pos (.inl h34)])
      clear h34
      go_wp2_with fail
      refine (writeByte_b b m 92 _ HB.out (by omega)).mono ?_
      rintro e2 w2 ⟨rfl, hB2, hk2⟩
      go_wp2_with fail
      refine (writeByte_b b _ c _ hB2 (by rw [List.length_append]; simp; omega)).mono ?_
      rintro e3 w3 ⟨rfl, hB3, hk3⟩
      have HB3 := Lib.hid (HE.out w3 (by rw [HQ.out]; simpa using hB3))
      have HK3 := Lib.hid (HK.out.trans (hk2.trans hk3))
      clear hB2 hk2 hB3 hk3
      go_wp2
      go_roundw
      case rel => exact ⟨k + 1, by omega, by go_num, HB3, HK3⟩
      case measure => simp [intOf]; omega
    . have q1 : ((c.toNat : Int) == 34) = false := b8f h34
      by_cases h92 : c = 92
      . have q2 : ((c.toNat : Int) == 92) = true := b8t h92
        have HQ : Hid (qc c = [92, c]) := Lib.hid (by unfold qc; rw [if_pos (.inr h92)])
        clear h34 h92
        go_wp2_with fail
        refine (writeByte_b b m 92 _ HB.out (by omega)).mono ?_
        rintro e2 w2 ⟨rfl, hB2, hk2⟩
        go_wp2_with fail
        refine (writeByte_b b _ c _ hB2 (by rw [List.length_append]; simp; omega)).mono ?_
        rintro e3 w3 ⟨rfl, hB3, hk3⟩
        have HB3 := Lib.hid (HE.out w3 (by rw [HQ.out]; simpa using hB3))
        have HK3 := Lib.hid (HK.out.trans (hk2.trans hk3))
        clear hB2 hk2 hB3 hk3
        go_wp2
        go_roundw
        case rel => exact ⟨k + 1, by omega, by go_num, HB3, HK3⟩
        case measure => simp [intOf]; omega
      . have q2 : ((c.toNat : Int) == 92) = false := b8f h92
        by_cases h32 : c.toNat < 32
        . have q3 : ((c.toNat : Int) < 32) = True := eq_true (by omega)
          have HQ : Hid (qc c = [92, 117, 48, 48, hexc (c.toNat / 16), hexc (c.toNat % 16)]) := Lib.hid (by unfold qc; rw [if_neg (by rintro (h | h); exact h34 h; exact h92 h), if_pos h32])
          have hx1 : c.toNat / 16 < 16 := by omega
          have hx2 : c.toNat % 16 < 16 := by omega
          have hx3 : c.toNat < 256 := by omega
          clear h34 h92
          go_wp2_with fail
          refine (writeString_b b m _ _ HB.out (by simp [ByteArray.size]; omega)).mono ?_
          rintro e2 w2 ⟨rfl, hB2, hk2⟩
          go_wp2_with fail
          rw [dig_at _ hx1]
          refine (writeByte_b b _ _ _ hB2 (by rw [List.length_append]; simp; omega)).mono ?_
          rintro e3 w3 ⟨rfl, hB3, hk3⟩
          go_wp2_with fail
          rw [dig_at _ hx2]
          refine (writeByte_b b _ _ _ hB3 (by rw [List.length_append, List.length_append]; simp; omega)).mono ?_
          rintro e4 w4 ⟨rfl, hB4, hk4⟩
          have HB3 := Lib.hid (HE.out w4 (by rw [HQ.out]; simpa using hB4))
          have HK3 := Lib.hid (HK.out.trans (hk2.trans (hk3.trans hk4)))
          clear hB2 hk2 hB3 hk3 hB4 hk4
          go_wp2
          go_roundw
          case rel => exact ⟨k + 1, by omega, by go_num, HB3, HK3⟩
          case measure => simp [intOf]; omega
        . have q3 : ((c.toNat : Int) < 32) = False := eq_false (by omega)
          have HQ : Hid (qc c = [c]) := Lib.hid (by unfold qc; rw [if_neg (by rintro (h | h); exact h34 h; exact h92 h), if_neg h32])
          clear h34 h92 h32
          go_wp2_with fail
          refine (writeByte_b b m c _ HB.out (by omega)).mono ?_
          rintro e3 w3 ⟨rfl, hB3, hk3⟩
          have HB3 := Lib.hid (HE.out w3 (by rw [HQ.out]; exact hB3))
          have HK3 := Lib.hid (HK.out.trans hk3)
          clear hB3 hk3
          go_wp2
          go_roundw
          case rel => exact ⟨k + 1, by omega, by go_num, HB3, HK3⟩
          case measure => simp [intOf]; omega
  . have hkL : k = s.length := by omega
    subst hkL
    have hfl : (l ++ 34 :: (s.take s.length).flatMap qc).length ≤ l.length + 6 * s.length + 1 := by
      have := flat_len (s.take s.length)
      rw [List.length_take] at this
      rw [List.length_append, List.length_cons]
      omega
    go_wp2_with fail
    refine (writeByte_b b _ 34 _ HB.out (by omega)).mono ?_
    rintro e3 w3 ⟨rfl, hB3, hk3⟩
    have HB3 : Hid (Bd b (l ++ quoted s) w3) := Lib.hid (by
      have h := hB3
      rw [List.take_length] at h
      unfold quoted
      simpa using h)
    have HK3 := Lib.hid (HK.out.trans hk3)
    clear hB3 hk3
    go_wp2
    go_end0
    exact ⟨rfl, HB3.out, HK3.out⟩
-- >
end Js
end Go.Proofs.YtjohdaobhonioaaGreatDoor
