/-
  The walk of a hash's Sum at this seat's translation: the digest of what was written, the hash as it was.
-/
import Derived.Test.YtgjelinnpcekmaaGreatDoorShaW
namespace Go.Proofs.YtgjelinnpcekmaaGreatDoor
open Go.RowKit Sha

theorem over_snoc (r : List UInt8) (i : Nat) (p : List UInt8) (c : UInt8) (h : i + p.length < r.length) : (over r i p).set (i + p.length) c = over r i (p ++ [c]) := by
  unfold over
  rw [List.append_assoc, List.set_append_right _ _ (by simp; omega), List.set_append_right _ _ (by simp; omega)]
  have e : i + p.length - (r.take i).length - p.length = 0 := by simp; omega
  rw [e, List.drop_eq_getElem_cons (show i + p.length < r.length by omega), List.set_cons_zero]
  simp [Nat.add_assoc]
theorem out_getq (st : List UInt32) (k n j : Nat) : (outN st k n)[j]? = if j < n then some (if j < k then byteAt st j else 0) else none := by
  unfold outN
  rw [List.getElem?_map]
  by_cases h : j < n
  · rw [List.getElem?_range h, if_pos h]; rfl
  · rw [List.getElem?_eq_none (by simp; omega), if_neg h]; rfl
theorem out_set (st : List UInt32) (k n : Nat) (hk : k < n) : (outN st k n).set k (byteAt st k) = outN st (k + 1) n := by
  apply List.ext_getElem?
  intro j
  rw [List.getElem?_set, out_getq, out_getq]
  by_cases hj : k = j
  · subst hj
    simp [hk, outN]
  · by_cases hjn : j < n
    · by_cases h1 : j < k
      · simp [hj, hjn, h1, show j < k + 1 by omega]
      · simp [hj, hjn, h1, show ¬ j < k + 1 by omega]
    · simp [hj, hjn]
theorem out_len (st : List UInt32) (k n : Nat) : (outN st k n).length = n := by simp [outN]
theorem out_zero (st : List UInt32) (n : Nat) : outN st 0 n = List.replicate n 0 := by
  apply List.ext_getElem?
  intro j
  rw [out_getq, List.getElem?_replicate]
  simp
theorem be_get (n i : Nat) (hi : i < 8) : (be64 n).take (i + 1) = (be64 n).take i ++ [UInt8.ofNat (n / 2 ^ (56 - 8 * i))] := by
  rw [List.take_succ_eq_append_getElem (by simp [be64]; omega)]
  simp [be64, List.getElem_map]
/-- How many noughts are still to come. -/
def zLeft (b : Nat) (wr : World) : Nat := match wr.cell? ⟨b, 73, none⟩ with | some (.int _ n) => (120 - n.toNat % 64) % 64 | _ => 0
theorem zLeft_is {wr : World} {b : Nat} {z : Int} {x : HS} (h : HshS wr b z x) : zLeft b wr = (120 - x.n % 64) % 64 := by
  unfold zLeft
  rw [h.c_n]
  simp
/-- What Sum leaves. -/
def SumPost (w : World) (z : Nat) (x : HS) (e : Ending) (w' : World) : Prop :=
  e = .returned (.agg ((outN (HS.sum x) z 32).map U8).toArray) ∧ Below w.heap.size w w'
theorem info33 : (Tryz.prog.info? 25).map (·.size) = some 32 := by kernel_rfl
theorem infoHash : (Tryz.prog.info? 83).map (·.size) = some 74 := by kernel_rfl
theorem one_hcells (z : Int) (st : List UInt32) (rest : List UInt8) (n : Nat) : (hcells z st rest n).toArray.all (·.oneCell') = true := by
  simp only [hcells, List.all_toArray, List.all_cons, List.all_append, List.all_map, List.all_nil, Bool.and_true]
  have h1 : st.all ((·.oneCell') ∘ W) = true := List.all_eq_true.2 fun _ _ => rfl
  have h2 : rest.all ((·.oneCell') ∘ U8) = true := List.all_eq_true.2 fun _ _ => rfl
  rw [h1, h2]; rfl
theorem be_take_len (n k : Nat) (hk : k ≤ 8) : ((be64 n).take k).length = k := by simp [be64]; omega
theorem shr_byte (B m : Nat) : U8 (UInt8.ofNat (B / 2 ^ m)) = .int .u8 ((B : Int) / 2 ^ m % 256) := by
  unfold U8
  rw [UInt8.toNat_ofNat']
  congr 1
set_option maxHeartbeats 8000000 in
set_option maxRecDepth 100000 in
theorem hsum_any (g z : Nat) (x : HS) (w : World) (h : HshS w g z x) (hk : KTab w) (hg : 1 < w.heap.size) (hz : z ≤ 32) (hn : x.n < 144115188075855872) :
    Calls Tryz.prog 28 #[.pointer (some ⟨g, 0, none⟩)] w (SumPost w z x) := by
  have HH := Lib.hid h
  have HK := Lib.hid hk
  have HG := Lib.hid hg
  have hgb := h.blk
  have hi1 : (Tryz.prog.info? 83).map (·.size) = some (hcells z x.st x.rest x.n).toArray.size := by rw [infoHash, List.size_toArray, hc_len h.l8 h.l64]
  have hlt0 := h.lt
  have hbl := h.blk
  have h1c := one_hcells (z : Int) x.st x.rest x.n
  clear h hk hg
  have hok := HH.out.ok
  have HOK := Lib.hid hok
  obtain ⟨CS, hcs⟩ : ∃ CS, CS = (hcells (z : Int) x.st x.rest x.n).toArray := ⟨_, rfl⟩
  rw [← hcs] at hgb hi1 h1c
  have HCS := Lib.hid hcs
  have hold : (Tryz.zeroCells83).size = CS.size := by
    have h1 : (Tryz.zeroCells83).size = 74 := by kernel_rfl
    rw [infoHash] at hi1
    rw [h1]; exact Option.some.inj hi1
  clear hcs hbl hok
  go_enter Tryz.func28, Tryz.ntmps28
  have hb0 : ∀ o : Obj, (w.alloc o).heap[g]? = some (.cells CS 83 (0, 0)) := fun o => (Below.heap_alloc w o g hlt0).trans hgb
  have hn1 : ∀ o : Obj, ((w.alloc o).alloc (.cells Tryz.zeroCells83 83)).heap[w.heap.size + 1]? = some (.cells Tryz.zeroCells83 83 (0, 0)) := fun o => heap_alloc2_new w _ _
  go_upto_region 2 with (first | (refine wpList_load_row rfl 83 _ rfl g rfl 83 _ (0, 0) _ (hb0 _) Tryz.underlying83 rfl hi1 ?_) | (refine wpList_store_row rfl 83 _ _ rfl (w.heap.size + 1) CS rfl rfl 83 _ (hn1 _) hi1 hold h1c ?_))
  have hx1 : HshS (((w.alloc (.cells #[Value.int IntKind.u8 0, Value.int IntKind.u8 0, Value.int IntKind.u8 0, Value.int IntKind.u8 0, Value.int IntKind.u8 0, Value.int IntKind.u8 0, Value.int IntKind.u8 0, Value.int IntKind.u8 0, Value.int IntKind.u8 0, Value.int IntKind.u8 0, Value.int IntKind.u8 0, Value.int IntKind.u8 0, Value.int IntKind.u8 0, Value.int IntKind.u8 0, Value.int IntKind.u8 0, Value.int IntKind.u8 0, Value.int IntKind.u8 0, Value.int IntKind.u8 0, Value.int IntKind.u8 0, Value.int IntKind.u8 0, Value.int IntKind.u8 0, Value.int IntKind.u8 0, Value.int IntKind.u8 0, Value.int IntKind.u8 0, Value.int IntKind.u8 0, Value.int IntKind.u8 0, Value.int IntKind.u8 0, Value.int IntKind.u8 0, Value.int IntKind.u8 0, Value.int IntKind.u8 0, Value.int IntKind.u8 0, Value.int IntKind.u8 0] 25)).alloc (.cells Tryz.zeroCells83 83)).setRow (w.heap.size + 1) CS) (w.heap.size + 1) z x :=
    ⟨by rw [← HCS.out]; exact setRow_heap _ _ _ _ _ _ (hn1 _), HOK.out.1, HOK.out.2⟩
  have hb1 : Below w.heap.size w (((w.alloc (.cells #[Value.int IntKind.u8 0, Value.int IntKind.u8 0, Value.int IntKind.u8 0, Value.int IntKind.u8 0, Value.int IntKind.u8 0, Value.int IntKind.u8 0, Value.int IntKind.u8 0, Value.int IntKind.u8 0, Value.int IntKind.u8 0, Value.int IntKind.u8 0, Value.int IntKind.u8 0, Value.int IntKind.u8 0, Value.int IntKind.u8 0, Value.int IntKind.u8 0, Value.int IntKind.u8 0, Value.int IntKind.u8 0, Value.int IntKind.u8 0, Value.int IntKind.u8 0, Value.int IntKind.u8 0, Value.int IntKind.u8 0, Value.int IntKind.u8 0, Value.int IntKind.u8 0, Value.int IntKind.u8 0, Value.int IntKind.u8 0, Value.int IntKind.u8 0, Value.int IntKind.u8 0, Value.int IntKind.u8 0, Value.int IntKind.u8 0, Value.int IntKind.u8 0, Value.int IntKind.u8 0, Value.int IntKind.u8 0, Value.int IntKind.u8 0] 25)).alloc (.cells Tryz.zeroCells83 83)).setRow (w.heap.size + 1) CS) :=
    setRow_below (((Below.refl _ _).alloc (Nat.le_refl _) _).alloc (by simp) _) (by omega) CS
  have hd1 : Blk (((w.alloc (.cells #[Value.int IntKind.u8 0, Value.int IntKind.u8 0, Value.int IntKind.u8 0, Value.int IntKind.u8 0, Value.int IntKind.u8 0, Value.int IntKind.u8 0, Value.int IntKind.u8 0, Value.int IntKind.u8 0, Value.int IntKind.u8 0, Value.int IntKind.u8 0, Value.int IntKind.u8 0, Value.int IntKind.u8 0, Value.int IntKind.u8 0, Value.int IntKind.u8 0, Value.int IntKind.u8 0, Value.int IntKind.u8 0, Value.int IntKind.u8 0, Value.int IntKind.u8 0, Value.int IntKind.u8 0, Value.int IntKind.u8 0, Value.int IntKind.u8 0, Value.int IntKind.u8 0, Value.int IntKind.u8 0, Value.int IntKind.u8 0, Value.int IntKind.u8 0, Value.int IntKind.u8 0, Value.int IntKind.u8 0, Value.int IntKind.u8 0, Value.int IntKind.u8 0, Value.int IntKind.u8 0, Value.int IntKind.u8 0, Value.int IntKind.u8 0] 25)).alloc (.cells Tryz.zeroCells83 83)).setRow (w.heap.size + 1) CS) w.heap.size 25 ((List.replicate 32 (0 : UInt8)).map U8).toArray := by
    refine (setRow_other _ _ _ _ (by omega)).trans ?_
    exact heap_alloc2_old w _ _
  generalize (((w.alloc (.cells #[Value.int IntKind.u8 0, Value.int IntKind.u8 0, Value.int IntKind.u8 0, Value.int IntKind.u8 0, Value.int IntKind.u8 0, Value.int IntKind.u8 0, Value.int IntKind.u8 0, Value.int IntKind.u8 0, Value.int IntKind.u8 0, Value.int IntKind.u8 0, Value.int IntKind.u8 0, Value.int IntKind.u8 0, Value.int IntKind.u8 0, Value.int IntKind.u8 0, Value.int IntKind.u8 0, Value.int IntKind.u8 0, Value.int IntKind.u8 0, Value.int IntKind.u8 0, Value.int IntKind.u8 0, Value.int IntKind.u8 0, Value.int IntKind.u8 0, Value.int IntKind.u8 0, Value.int IntKind.u8 0, Value.int IntKind.u8 0, Value.int IntKind.u8 0, Value.int IntKind.u8 0, Value.int IntKind.u8 0, Value.int IntKind.u8 0, Value.int IntKind.u8 0, Value.int IntKind.u8 0, Value.int IntKind.u8 0, Value.int IntKind.u8 0] 25)).alloc (.cells Tryz.zeroCells83 83)).setRow (w.heap.size + 1) CS) = w1 at hx1 hb1 hd1
  have HX1 := Lib.hid hx1
  have HB1 := Lib.hid hb1
  have HD1 := Lib.hid hd1
  have cn := (HH.out.below HB1.out hlt0).c_n
  have HK1 : Hid (KTab w1) := Lib.hid (fun k hk => (HB1.out.cell (p := ⟨1, k, none⟩) HG.out).trans (HK.out k hk))
  have HG1 : Hid (1 < w1.heap.size) := Lib.hid (by have := HB1.out.size; have := HG.out; omega)
  clear hx1 hb1 hd1 hb0 hn1 hold h1c hi1 hgb
  have hu1 : IntKind.u64.wrap (x.n : Int) = (x.n : Int) := by rw [IntKind.wrap_u64]; omega
  obtain ⟨B, hB⟩ : ∃ B : Nat, B = 8 * x.n := ⟨_, rfl⟩
  have hu2 : IntKind.u64.wrap ((x.n : Int) * 8) = (B : Int) := by rw [IntKind.wrap_u64]; omega
  have HBB := Lib.hid hB
  clear hB
  go_upto_region 3 with fail
  go_wp2_with fail
  refine (write_any (w.heap.size + 1) z x [128] w1 HX1.out HK1.out HG1.out (by have := HG.out; omega) (by simp; omega)).mono ?_
  rintro e w2 ⟨rfl, hx2, hg2⟩
  have HX2 : Hid (HshS w2 (w.heap.size + 1) z (x.bytes (128 :: List.replicate 0 0))) := Lib.hid hx2
  have HB2 := Lib.hid (HB1.out.grown hg2 HB1.out.size (by intro k hk; injection hk with hk; omega))
  have HD2 := Lib.hid (HD1.out.grown hg2 (by intro h; injection h with h; omega))
  clear hx2 hg2 HX1 HB1 HD1 HK1 HG1
  go_wp2_with fail
  go_loopw [] (fun wr => ∃ j : Nat, j ≤ zeros x.n ∧ Hid (HshS wr (w.heap.size + 1) z (x.bytes (128 :: List.replicate j 0))) ∧ Hid (Below w.heap.size w wr) ∧ Hid (Blk wr w.heap.size 25 ((List.replicate 32 (0 : UInt8)).map U8).toArray)) (fun wr => zLeft (w.heap.size + 1) wr)
  case atStart => exact ⟨0, by omega, HX2, HB2, HD2⟩
  case round =>
    obtain ⟨j, hj, HX, HB, HD⟩ := hrel
    have hyn : (x.bytes (128 :: List.replicate j 0)).n = x.n + 1 + j := by rw [HS.bytes_n]; simp; omega
    have HNX : Hid (x.bytes (128 :: List.replicate (j + 1) 0) = (x.bytes (128 :: List.replicate j 0)).bytes [0]) := Lib.hid (by rw [← HS.bytes_append, List.replicate_succ']; rfl)
    have HZJ : Hid (j = zeros x.n → HS.sum x = compress (x.bytes (128 :: List.replicate j 0)).st (over (x.bytes (128 :: List.replicate j 0)).rest 56 (be64 (8 * x.n)))) := Lib.hid (fun h => by
      have := HS.sum_eq x HOK.out (x.bytes (128 :: List.replicate j 0)) (by rw [h])
      exact this.1)
    generalize x.bytes (128 :: List.replicate j 0) = y at HX hyn HNX HZJ
    have cy := HX.out.c_n
    have hm : ((y.n : Int)).tmod 64 = ((y.n % 64 : Nat) : Int) := (Int.ofNat_tmod y.n 64).symm
    have hzl := zLeft_is HX.out
    have HZL := Lib.hid hzl
    have HZ0 : Hid (zeros x.n = (119 - x.n % 64) % 64) := Lib.hid rfl
    clear hzl
    by_cases hlt : y.n % 64 = 56
    · have hq : (((y.n % 64 : Nat) : Int) != 56) = false := by rw [hlt]; rfl
      have HJ : Hid (j = zeros x.n) := Lib.hid (by have := HZ0.out; omega)
      clear hj
      go_wp2_with fail
      have HSUM : Hid (HS.sum x = compress y.st (over y.rest 56 (be64 B))) := Lib.hid (by rw [HZJ.out HJ.out, HBB.out])
      have hx0 : Hsh wr (w.heap.size + 1) z y.st (over y.rest 56 ((be64 B).take 0)) y.n := by
        have e : over y.rest 56 ((be64 B).take 0) = y.rest := by simp [over]
        rw [e]; exact HX.out
      have HX0 := Lib.hid hx0
      have HYR := Lib.hid HX.out.l64
      clear hx0 cy hm hq HZJ HNX HZL hyn hlt
      go_loopw [23] (fun i wr => ∃ k : Nat, k ≤ 8 ∧ i = .int .i64 k ∧ Hid (Hsh wr (w.heap.size + 1) z y.st (over y.rest 56 ((be64 B).take k)) y.n) ∧ Hid (Below w.heap.size w wr) ∧ Hid (Blk wr w.heap.size 25 ((List.replicate 32 (0 : UInt8)).map U8).toArray)) (fun i _ => 8 - (intOf i).toNat)
      case atStart => exact ⟨0, by omega, rfl, HX0, HB, HD⟩
      case round =>
        clear HX0 HX HB HD
        obtain ⟨k, hk, rfl, HX, HB, HD⟩ := hrel
        by_cases hlt : k < 8
        · have HXS : Hid (∀ wx, Hsh wx (w.heap.size + 1) z y.st (over y.rest 56 ((be64 B).take k)) y.n → Hsh (wx.setCell ⟨w.heap.size + 1, 9 + (56 + k), none⟩ (U8 (UInt8.ofNat (B / 2 ^ (56 - 8 * k))))) (w.heap.size + 1) z y.st (over y.rest 56 ((be64 B).take (k + 1))) y.n) := Lib.hid (fun wx h => by
            have := h.set_rest (i := 56 + k) (by omega) (UInt8.ofNat (B / 2 ^ (56 - 8 * k)))
            have e := over_snoc y.rest 56 ((be64 B).take k) (UInt8.ofNat (B / 2 ^ (56 - 8 * k))) (by rw [be_take_len _ _ hk, HYR.out]; omega)
            rw [be_take_len _ _ hk] at e
            rw [e, ← be_get B k hlt] at this
            exact this)
          have ck := HX.out.c_rest (i := 56 + k) (by omega)
          have fk := HX.out.frozen (9 + (56 + k))
          rw [shr_byte B (56 - 8 * k)] at HXS
          have hw1 : IntKind.i64.wrap (56 + (k : Int)) = 56 + (k : Int) := IntWalk.i64_in _ (by omega)
          have hw2 : IntKind.i64.wrap (8 * (k : Int)) = 8 * (k : Int) := IntWalk.i64_in _ (by omega)
          have hw3 : IntKind.i64.wrap (56 - 8 * (k : Int)) = 56 - 8 * (k : Int) := IntWalk.i64_in _ (by omega)
          have p1 : 0 ≤ 56 + (k : Int) ∧ 56 + (k : Int) < 64 := by omega
          have t1 : (56 + (k : Int)).toNat = 56 + k := by omega
          have HX2 : Hid (Hsh (wr.setCell ⟨w.heap.size + 1, 9 + (56 + k), none⟩ (.int .u8 ((B : Int) / 2 ^ (56 - 8 * k) % 256))) (w.heap.size + 1) z y.st (over y.rest 56 ((be64 B).take (k + 1))) y.n) := Lib.hid (HXS.out wr HX.out)
          have HB2 : Hid (Below w.heap.size w (wr.setCell ⟨w.heap.size + 1, 9 + (56 + k), none⟩ (.int .u8 ((B : Int) / 2 ^ (56 - 8 * k) % 256)))) := Lib.hid (HB.out.setCell (by simp) _)
          have HD2 : Hid (Blk (wr.setCell ⟨w.heap.size + 1, 9 + (56 + k), none⟩ (.int .u8 ((B : Int) / 2 ^ (56 - 8 * k) % 256))) w.heap.size 25 ((List.replicate 32 (0 : UInt8)).map U8).toArray) := Lib.hid (HD.out.far (by simp) _)
          go_wp2
          go_roundw
          case rel => exact ⟨k + 1, by omega, by go_num, HX2, HB2, HD2⟩
          case measure => simp [intOf]; omega
        · have hk8 : k = 8 := by omega
          have HX2 : Hid (Hsh wr (w.heap.size + 1) z y.st (over y.rest 56 (be64 B)) y.n) := Lib.hid (by have := HX.out; rw [hk8, List.take_of_length_le (by simp [be64])] at this; exact this)
          have HK2 : Hid (KTab wr) := Lib.hid (fun k hk => (HB.out.cell (p := ⟨1, k, none⟩) HG.out).trans (HK.out k hk))
          have HG2 : Hid (1 < wr.heap.size) := Lib.hid (by have := HB.out.size; have := HG.out; omega)
          go_wp2_with fail
          refine (block_any (w.heap.size + 1) z _ _ _ wr HX2.out HK2.out HG2.out).mono ?_
          rintro e w4 ⟨rfl, hx4, hg4⟩
          rw [← HSUM.out] at hx4
          have HX4 : Hid (∀ i, i < 8 → w4.cell? ⟨w.heap.size + 1, 1 + i, none⟩ = some (W ((HS.sum x).getD i 0))) := Lib.hid (fun i hi => hx4.c_st hi)
          have HL4 : Hid (w.heap.size + 1 < w4.heap.size) := Lib.hid hx4.lt
          have HB4 := Lib.hid (HB.out.grown hg4 HB.out.size (by intro k hk; injection hk with hk; omega))
          have HD4 := Lib.hid (HD.out.grown hg4 (by intro h; injection h with h; omega))
          have cz := (HH.out.below HB4.out hlt0).c_z
          clear hx4 hg4 HX HB HD HX2 HK2 HG2 HSUM
          obtain ⟨S, hS⟩ : ∃ S, S = HS.sum x := ⟨_, rfl⟩
          rw [← hS] at HX4
          have HSS := Lib.hid hS
          clear hS
          have hbn : w.heap.size ≤ w4.heap.size := HB4.out.size
          have HGL : Hid (g < w4.heap.size) := Lib.hid (by omega)
          have cz2 : ∀ o : Obj, (w4.alloc o).cell? ⟨g, 0, none⟩ = some (.int .i64 (z : Int)) := fun o => (World.cell?_alloc_lt w4 o _ HGL.out).trans cz
          clear cz cn hn hbn
          go_wp2_with fail
          go_loopw [42] (fun i wr => ∃ k : Nat, k ≤ z ∧ i = .int .i64 k ∧ Hid (Below w4.heap.size w4 wr) ∧ Hid (Blk wr w4.heap.size 25 ((outN S k 32).map U8).toArray)) (fun i _ => z - (intOf i).toNat)
          case atStart => exact ⟨0, by omega, rfl, Lib.hid ((Below.refl _ _).alloc (Nat.le_refl _) _), Lib.hid (by rw [out_zero]; exact Blk.new w4 _ _)⟩
          case round =>
            clear cz2
            obtain ⟨k, hk, rfl, HW, HD⟩ := hrel
            by_cases hlt : k < z
            · obtain ⟨q, hq⟩ : ∃ q, q = k / 4 := ⟨_, rfl⟩
              obtain ⟨m, hm⟩ : ∃ m, m = k % 4 := ⟨_, rfl⟩
              have HV : Hid (byteAt S k = ((S.getD q 0) >>> UInt32.ofNat (24 - 8 * m)).toUInt8) := Lib.hid (by rw [hq, hm]; rfl)
              have hq1 : (k : Int).tdiv 4 = (q : Int) := by rw [hq]; exact (Int.ofNat_tdiv k 4).symm
              have hq2 : (k : Int) / 4 = (q : Int) := by omega
              have hm1 : (k : Int).tmod 4 = (m : Int) := by rw [hm]; exact (Int.ofNat_tmod k 4).symm
              have hm2 : (k : Int) % 4 = (m : Int) := by omega
              have hq8 : q < 8 := by omega
              have hm4 : m < 4 := by omega
              clear hq hm
              have cq : wr.cell? ⟨w.heap.size + 1, 1 + q, none⟩ = some (W (S.getD q 0)) := (HW.out.cell (p := ⟨w.heap.size + 1, 1 + q, none⟩) HL4.out).trans (HX4.out q hq8)
              generalize S.getD q 0 = xq at cq HV
              have hsr : ∀ x wx, (binOp .shr 79 (W x) (.int .i64 (24 - 8 * (m : Int)))).run Tryz.prog wx = .ok (W (x >>> UInt32.ofNat (24 - 8 * m))) wx := fun x wx => by
                rw [show (24 - 8 * (m : Int)) = ((24 - 8 * m : Nat) : Int) by omega]
                exact shr_W x wx .i64 (24 - 8 * m) (by omega)
              have hbw := byte_W
              have hw1 : IntKind.i64.wrap (8 * (m : Int)) = 8 * (m : Int) := IntWalk.i64_in _ (by omega)
              have hw2 : IntKind.i64.wrap (24 - 8 * (m : Int)) = 24 - 8 * (m : Int) := IntWalk.i64_in _ (by omega)
              have p1 : 0 ≤ (q : Int) ∧ (q : Int) < 8 := by omega
              have p2 : 0 ≤ (k : Int) ∧ (k : Int) < 32 := by omega
              obtain ⟨u, cu⟩ : ∃ u, wr.cell? ⟨w4.heap.size, k, none⟩ = some u := by
                rw [HD.out.cell k, List.getElem?_toArray, List.getElem?_map, out_getq, if_pos (show k < 32 by omega)]
                exact ⟨_, rfl⟩
              have fu := HD.out.frozen k
              have hst : ∀ c, (storeCells ⟨w4.heap.size, k, none⟩ [U8 c]).run Tryz.prog wr = .ok () (wr.setCell ⟨w4.heap.size, k, none⟩ (U8 c)) := fun c => store_U8 (w := wr) c cu fu
              have HD2 : Hid (∀ c, c = byteAt S k → Blk (wr.setCell ⟨w4.heap.size, k, none⟩ (U8 c)) w4.heap.size 25 ((outN S (k + 1) 32).map U8).toArray) := Lib.hid (fun c h => by
                have := HD.out.set_ k (U8 c)
                rw [List.setIfInBounds_toArray, ← List.map_set, h, out_set S k 32 (by omega)] at this
                rw [h]; exact this)
              have HW2 : Hid (∀ c, Below w4.heap.size w4 (wr.setCell ⟨w4.heap.size, k, none⟩ (U8 c))) := Lib.hid (fun c => HW.out.setCell (Nat.le_refl _) _)
              clear cu fu
              go_wp2
              rw [hst]
              go_wp2
              go_roundw
              case rel => exact ⟨k + 1, by omega, by go_num, HW2.out _, HD2.out _ HV.out.symm⟩
              case measure => simp [intOf]; omega
            · have hkz : k = z := by omega
              subst hkz
              have hDl : ((outN S k 32).map U8).toArray.size = 32 := by simp [out_len]
              have h1c : (((outN S k 32).map U8).toArray).all (·.oneCell') = true := by
                simp only [List.all_toArray, List.all_map]
                exact List.all_eq_true.2 fun _ _ => rfl
              have HBF : Hid (Below w.heap.size w (wr.setRow w.heap.size ((outN S k 32).map U8).toArray)) := Lib.hid (setRow_below (HB4.out.trans (HW.out.mono HB4.out.size)) (Nat.le_refl _) _)
              have hb6 : wr.heap[w4.heap.size]? = some (.cells ((outN S k 32).map U8).toArray 25 (0, 0)) := HD.out
              have hb2 : wr.heap[w.heap.size]? = some (.cells ((List.replicate 32 (0 : UInt8)).map U8).toArray 25 (0, 0)) := (HW.out.block _ (by have := HL4.out; omega)).trans HD4.out
              obtain ⟨ZS, hzs⟩ : ∃ ZS, ZS = ((List.replicate 32 (0 : UInt8)).map U8).toArray := ⟨_, rfl⟩
              have hzl : ZS.size = 32 := by rw [hzs]; simp
              rw [← hzs] at hb2
              have HPS : Hid (∀ w', Below w.heap.size w w' → SumPost w k x (.returned (.agg ((outN S k 32).map U8).toArray)) w') := Lib.hid (fun w' h => ⟨by rw [HSS.out], h⟩)
              generalize ((outN S k 32).map U8).toArray = DS at hDl h1c HBF hb6 HPS HD
              have hi3 : (Tryz.prog.info? 25).map (·.size) = some DS.size := by rw [info33, hDl]
              have hfin := setRow_heap wr w.heap.size ZS DS _ _ hb2
              clear hzs HD HD4 HW
              go_wp2_with (first | (refine wpList_load_row rfl 25 _ rfl w4.heap.size rfl 25 _ (0, 0) _ hb6 Tryz.underlying25 rfl hi3 ?_) | (refine wpList_store_row rfl 25 _ _ rfl w.heap.size DS rfl rfl 25 _ hb2 hi3 (hzl.trans hDl.symm) h1c ?_))
              (try simp only [Exit.inBlock, Exit.then])
              refine bodyPost_ret (results_cell_row rfl _ _ w.heap.size 25 DS (0, 0) _ rfl hfin Tryz.underlying25 rfl hi3) rfl ?_
              exact HPS.out _ HBF.out
    · have hq : (((y.n % 64 : Nat) : Int) != 56) = true := by simp; omega
      have HK2 : Hid (KTab wr) := Lib.hid (fun k hk => (HB.out.cell (p := ⟨1, k, none⟩) HG.out).trans (HK.out k hk))
      have HG2 : Hid (1 < wr.heap.size) := Lib.hid (by have := HB.out.size; have := HG.out; omega)
      have hjz : j < zeros x.n := by have := HZ0.out; omega
      go_wp2_with fail
      refine (write_any (w.heap.size + 1) z y [0] wr HX.out HK2.out HG2.out (by have := HG.out; omega) (by simp; have := HZ0.out; omega)).mono ?_
      rintro e w3 ⟨rfl, hx3, hg3⟩
      rw [← HNX.out] at hx3
      have HX3 := Lib.hid hx3
      have HB3 := Lib.hid (HB.out.grown hg3 HB.out.size (by intro k hk; injection hk with hk; omega))
      have HD3 := Lib.hid (HD.out.grown hg3 (by intro h; injection h with h; omega))
      clear hx3 hg3
      go_wp2
      go_roundw
      case rel => exact ⟨j + 1, by omega, HX3, HB3, HD3⟩
      case measure => rw [zLeft_is HX3.out, HZL.out, HNX.out, HS.bytes_n]; simp only [List.length_cons, List.length_nil]; omega
end Go.Proofs.YtgjelinnpcekmaaGreatDoor
