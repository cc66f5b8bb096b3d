/-
  The walk of strataref03.Sum at this seat's translation: the document's digest.
-/
import Derived.Test.YtgjelinnpcekmaaGreatDoorShaE
import Derived.Test.YtgjelinnpcekmaaGreatDoorShaN
import Derived.Lib.MinMax
namespace Go.Proofs.YtgjelinnpcekmaaGreatDoor
open Go.RowKit Sha

/-- The reference's table of the first eight numbers. -/
def BTab (w : World) : Prop := ∀ k, k < 8 → w.cell? ⟨0, k, none⟩ = some (W (hTab.getD k 0))
theorem BTab.lt {w : World} (h : BTab w) : 0 < w.heap.size := block_lt_of_cell (h 0 (by omega))
theorem BTab.below {w w' : World} {B : Nat} (hk : BTab w) (hb : Below B w w') (hg : 0 < B) : BTab w' := fun k h => (hb.cell (p := ⟨0, k, none⟩) hg).trans (hk k h)
theorem BTab.reads {w : World} (h : BTab w) : Reads w w.heap.size 1 (some ⟨0, 0, none⟩) 8 (hTab.map W) := by
  refine ⟨by simp [hTab], fun _ => ⟨_, rfl, h.lt, fun j u hu => ?_⟩⟩
  have hj : j < 8 := by have := (List.getElem?_eq_some_iff.1 hu).1; simpa [hTab] using this
  have hadd : (⟨0, 0, none⟩ : Addr).add j = ⟨0, j, none⟩ := by unfold Addr.add; split <;> simp_all
  rw [hadd, h j hj, ← hu, map_get (by simpa [hTab] using hj)]
theorem sliceB (ad : Addr) (n c lo : Nat) (hlo : lo < c) (hn : lo + 64 ≤ n) (hc : n ≤ c) (wx : World) :
    (Instr.slice 30 (.slice (some ad) n c) (some (.int .i64 (lo : Int))) (some (.int .i64 ((lo : Int) + 64))) none).run Tryz.prog wx = .ok (.slice (some (ad.add lo)) 64 (c - lo)) wx := by
  have he : Tryz.prog.elem 30 = 5 := by kernel_rfl
  have hu : Tryz.prog.underlying 30 = some (.slice (Tryz.prog.elem 30)) := by kernel_rfl
  rw [run_slice_lh wx 30 (some ad) n c hu .i64 .i64 (lo : Int) ((lo : Int) + 64) (by omega) (by omega) (by omega), he, u8Size]
  simp only [Result.andThen_ok, sliced, Int.toNat_natCast, show ((lo : Int) + 64).toNat = lo + 64 by omega, Nat.mul_one]
  rw [if_neg (by omega)]
  simp
def blocksN (s : List UInt8) : Nat := (s.length + (pad s.length).length) / 64
theorem blocksN_len (s : List UInt8) : (s ++ pad s.length).length = 64 * blocksN s := by
  have := pad_length s.length
  unfold blocksN
  rw [List.length_append]; omega
theorem pad_le (n : Nat) : (pad n).length ≤ 80 := by
  simp only [pad, be64, List.length_append, List.length_cons, List.length_replicate, List.length_map, List.length_range, zeros]; omega
set_option maxHeartbeats 8000000 in
set_option maxRecDepth 100000 in
theorem rsum_any (z : Int) (s : List UInt8) (w : World) (hk : RTab w) (hb : BTab w) (hs : s.length ≤ 1099511627776) :
    Calls Tryz.prog 31 #[.int .i64 z, .string ⟨s.toArray⟩] w (DSumPost w z s) := by
  have HK := Lib.hid hk
  have HBT := Lib.hid hb
  have HSL := Lib.hid hs
  clear hk hb
  go_enter Tryz.func31, Tryz.ntmps31
  go_wp2_with fail
  have hb0 : Below w.heap.size w (w.alloc (.cells #[Value.int IntKind.u8 0, Value.int IntKind.u8 0, Value.int IntKind.u8 0, Value.int IntKind.u8 0, Value.int IntKind.u8 0, Value.int IntKind.u8 0, Value.int IntKind.u8 0, Value.int IntKind.u8 0, Value.int IntKind.u8 0, Value.int IntKind.u8 0, Value.int IntKind.u8 0, Value.int IntKind.u8 0, Value.int IntKind.u8 0, Value.int IntKind.u8 0, Value.int IntKind.u8 0, Value.int IntKind.u8 0, Value.int IntKind.u8 0, Value.int IntKind.u8 0, Value.int IntKind.u8 0, Value.int IntKind.u8 0, Value.int IntKind.u8 0, Value.int IntKind.u8 0, Value.int IntKind.u8 0, Value.int IntKind.u8 0, Value.int IntKind.u8 0, Value.int IntKind.u8 0, Value.int IntKind.u8 0, Value.int IntKind.u8 0, Value.int IntKind.u8 0, Value.int IntKind.u8 0, Value.int IntKind.u8 0, Value.int IntKind.u8 0] 25)) := (Below.refl _ _).alloc (Nat.le_refl _) _
  have hd0 : Blk (w.alloc (.cells #[Value.int IntKind.u8 0, Value.int IntKind.u8 0, Value.int IntKind.u8 0, Value.int IntKind.u8 0, Value.int IntKind.u8 0, Value.int IntKind.u8 0, Value.int IntKind.u8 0, Value.int IntKind.u8 0, Value.int IntKind.u8 0, Value.int IntKind.u8 0, Value.int IntKind.u8 0, Value.int IntKind.u8 0, Value.int IntKind.u8 0, Value.int IntKind.u8 0, Value.int IntKind.u8 0, Value.int IntKind.u8 0, Value.int IntKind.u8 0, Value.int IntKind.u8 0, Value.int IntKind.u8 0, Value.int IntKind.u8 0, Value.int IntKind.u8 0, Value.int IntKind.u8 0, Value.int IntKind.u8 0, Value.int IntKind.u8 0, Value.int IntKind.u8 0, Value.int IntKind.u8 0, Value.int IntKind.u8 0, Value.int IntKind.u8 0, Value.int IntKind.u8 0, Value.int IntKind.u8 0, Value.int IntKind.u8 0, Value.int IntKind.u8 0] 25)) w.heap.size 25 ((List.replicate 32 (0 : UInt8)).map U8).toArray := Blk.new w _ _
  generalize (w.alloc (.cells #[Value.int IntKind.u8 0, Value.int IntKind.u8 0, Value.int IntKind.u8 0, Value.int IntKind.u8 0, Value.int IntKind.u8 0, Value.int IntKind.u8 0, Value.int IntKind.u8 0, Value.int IntKind.u8 0, Value.int IntKind.u8 0, Value.int IntKind.u8 0, Value.int IntKind.u8 0, Value.int IntKind.u8 0, Value.int IntKind.u8 0, Value.int IntKind.u8 0, Value.int IntKind.u8 0, Value.int IntKind.u8 0, Value.int IntKind.u8 0, Value.int IntKind.u8 0, Value.int IntKind.u8 0, Value.int IntKind.u8 0, Value.int IntKind.u8 0, Value.int IntKind.u8 0, Value.int IntKind.u8 0, Value.int IntKind.u8 0, Value.int IntKind.u8 0, Value.int IntKind.u8 0, Value.int IntKind.u8 0, Value.int IntKind.u8 0, Value.int IntKind.u8 0, Value.int IntKind.u8 0, Value.int IntKind.u8 0, Value.int IntKind.u8 0] 25)) = w1 at hb0 hd0
  have HB1 := Lib.hid hb0
  have HD1 := Lib.hid hd0
  clear hb0 hd0
  refine (padded_any s w1 (by omega)).mono ?_
  rintro e w2 ⟨v, rfl, hr2, hb2⟩
  have HB2 := Lib.hid (HB1.out.trans (hb2.mono HB1.out.size))
  have HD2 := Lib.hid (HD1.out.below hb2 HD1.out.lt)
  clear hb2 HB1 HD1
  obtain ⟨ga, ca, cur, fz, rfl, hga, hgg, hfz, hnc, hcm, hcs, htk⟩ := hr2
  have HR2 : Hid (Reads w2 w2.heap.size 1 (some ⟨ga, 0, none⟩) (64 * blocksN s) ((s ++ pad s.length).map U8)) := Lib.hid (by
    obtain ⟨A, c, e1, h⟩ := RowG.reads (w := w2) (base := w1.heap.size) (e := 5) (xs := (s ++ pad s.length).map U8) ⟨ga, ca, cur, fz, rfl, hga, hgg, hfz, hnc, hcm, hcs, htk⟩
    injection e1 with e1
    rw [← e1, List.length_map, blocksN_len] at h
    exact h)
  rw [List.length_map, blocksN_len] at hnc
  rw [List.length_map, blocksN_len]
  have HNC := Lib.hid hnc
  have HGA : Hid (ga < w2.heap.size) := Lib.hid (Array.getElem?_eq_some_iff.1 hgg).1
  clear hga hgg hfz hcm hcs htk
  have HN : Hid (blocksN s ≤ 34359738368) := Lib.hid (by have := blocksN_len s; have h2 := pad_le s.length; rw [List.length_append] at this; omega)
  have HSHA : Hid (sha s = blocks (blocksN s) hTab (s ++ pad s.length)) := Lib.hid rfl
  have HLB : Hid ((s ++ pad s.length).length = 64 * blocksN s) := Lib.hid (blocksN_len s)
  generalize s ++ pad s.length = B at HR2 HSHA HLB
  generalize blocksN s = N at HR2 HSHA HLB HN HNC hnc
  have hnn := HN.out
  obtain ⟨M, hM⟩ : ∃ M, M = 64 * N := ⟨_, rfl⟩
  rw [← hM] at HR2 HLB HNC hnc
  rw [← hM]
  have HM := Lib.hid hM
  clear hM
  go_wp2_with fail
  go_loopw [5, 7] (fun v i wr => ∃ (k lo : Nat) (st : List UInt32) (A : Option Addr) (c : Nat), Hid (k ≤ N ∧ lo = 64 * k) ∧ i = .int .i64 (lo : Int) ∧ v = .slice A 8 c ∧ Hid (blocks N hTab B = blocks (N - k) st (B.drop (64 * k))) ∧ Hid (Reads wr wr.heap.size 1 A 8 (st.map W)) ∧ Hid (Below w2.heap.size w2 wr)) (fun _ i _ => M - (intOf i).toNat)
  case atStart => exact ⟨0, 0, hTab, _, _, Lib.hid ⟨by omega, rfl⟩, rfl, rfl, Lib.hid (by simp), Lib.hid (HBT.out.below HB2.out HBT.out.lt).reads, Lib.hid (Below.refl _ _)⟩
  case round =>
    obtain ⟨k, lo, st, A, c, HKL, rfl, rfl, HBL, HR, HB⟩ := hrel
    by_cases hlt : lo < M
    · have hkN : k < N := by have := HKL.out; have := HM.out; omega
      have hl64 : lo + 64 ≤ M := by have := HKL.out; have := HM.out; omega
      have hsl := sliceB ⟨ga, 0, none⟩ M ca lo (by omega) hl64 hnc
      have hw1 : IntKind.i64.wrap ((lo : Int) + 64) = (lo : Int) + 64 := IntWalk.i64_in _ (by have := HM.out; omega)
      have HSUB : Hid (Reads wr wr.heap.size 1 (some ((⟨ga, 0, none⟩ : Addr).add lo)) 64 (((B.drop (64 * k)).take 64).map U8)) := Lib.hid (by
        have e2 := HKL.out.2
        refine ⟨by rw [List.length_map, List.length_take, List.length_drop, HLB.out]; omega, fun _ => ⟨_, rfl, by rw [block_of_add]; have := HGA.out; have := HB.out.size; show ga < _; omega, fun j u hu => ?_⟩⟩
        have hj : j < 64 := by have := (List.getElem?_eq_some_iff.1 hu).1; rw [List.length_map, List.length_take] at this; omega
        rw [add_of_add]
        obtain ⟨ad', e1, _, h3⟩ := (HR2.out.below HB.out).2 (by omega)
        injection e1 with e1
        rw [e1]
        refine h3 _ u ?_
        rw [← hu, List.getElem?_map, List.getElem?_map, List.getElem?_take, if_pos hj, List.getElem?_drop, e2])
      have HBL2 : Hid (blocks N hTab B = blocks (N - (k + 1)) (compress st ((B.drop (64 * k)).take 64)) (B.drop (64 * (k + 1)))) := Lib.hid (by
        rw [HBL.out, show N - k = (N - (k + 1)) + 1 by omega, blocks, List.drop_drop, show 64 * k + 64 = 64 * (k + 1) by omega])
      generalize (B.drop (64 * k)).take 64 = rest at HSUB HBL2
      generalize ((⟨ga, 0, none⟩ : Addr).add lo) = ab at hsl HSUB
      go_wp2_with fail
      refine (rblock_any st rest A (some ab) c _ wr HR.out HSUB.out (HK.out.below (HB2.out.trans (HB.out.mono HB2.out.size)) HK.out.lt)).mono ?_
      rintro e w4 ⟨v4, rfl, ho4, hb4⟩
      obtain ⟨A4, c4, rfl, hr4⟩ := own_readsN ho4
      have HR4 := Lib.hid hr4
      have HB4 := Lib.hid (HB.out.trans (hb4.mono HB.out.size))
      clear ho4 hr4 hb4 hsl
      go_wp2
      go_roundw
      case rel => exact ⟨k + 1, lo + 64, compress st rest, A4, c4, Lib.hid ⟨by omega, by have := HKL.out; omega⟩, by go_num, rfl, HBL2, HR4, HB4⟩
      case measure => simp [intOf]; omega
    · have HST : Hid (st = sha s) := Lib.hid (by
        have h1 := HKL.out
        have h2 := HM.out
        have hkN : k = N := by omega
        have h := HBL.out
        rw [hkN, Nat.sub_self, blocks] at h
        rw [HSHA.out, h])
      have H8 : Hid (st.length = 8) := Lib.hid (by rw [HST.out]; exact sha_length s)
      clear HBL HKL
      obtain ⟨ad, rfl, hadb, hcell⟩ := HR.out.2 (by omega)
      have HCE : Hid (∀ j, j < 8 → wr.cell? (ad.add j) = some (W (st.getD j 0))) := Lib.hid (fun j hj => hcell j _ (map_get (by rw [H8.out]; exact hj)))
      have HADB := Lib.hid hadb
      clear hadb hcell HR
      obtain ⟨w5, hw5⟩ : ∃ w5, w5 = wr := ⟨_, rfl⟩
      subst hw5
      have HB5 : Hid (Below w.heap.size w w5) := Lib.hid (HB2.out.trans (HB.out.mono HB2.out.size))
      have HD5 : Hid (Blk w5 w.heap.size 25 ((List.replicate 32 (0 : UInt8)).map U8).toArray) := Lib.hid (HD2.out.below HB.out HD2.out.lt)
      clear HB HB2 HD2 HR2 HSHA HLB hnc HNC HGA
      go_wp2_with fail
      have hwz : ∀ k : Nat, k < 32 → (((k : Int) < max z 1) ↔ k < width z) := fun k hk => by unfold width; omega
      have HWZ := Lib.hid hwz
      have HW32 := Lib.hid (width_le z).2
      clear hwz
      go_loopw [9] (fun i wr => ∃ k : Nat, k ≤ 32 ∧ Hid (k ≤ width z) ∧ i = .int .i64 k ∧ Hid (Below w5.heap.size w5 wr) ∧ Hid (Blk wr w5.heap.size 25 ((outN st k 32).map U8).toArray)) (fun i _ => 32 - (intOf i).toNat)
      case atStart => exact ⟨0, by omega, Lib.hid (by omega), rfl, Lib.hid ((Below.refl _ _).alloc (Nat.le_refl _) _), Lib.hid (by rw [out_zero]; exact Blk.new w5 _ _)⟩
      case round =>
        obtain ⟨k, hk, HKW, rfl, HW, HD⟩ := hrel
        by_cases hlt : k < width z
        · have hk32 : k < 32 := by have := HW32.out; omega
          have hcnd : ((k : Int) < max z 1) = True := by simp only [eq_iff_iff, iff_true]; exact (HWZ.out k hk32).2 hlt
          obtain ⟨q, hq⟩ : ∃ q, q = k / 4 := ⟨_, rfl⟩
          obtain ⟨m, hm⟩ : ∃ m, m = k % 4 := ⟨_, rfl⟩
          have HV : Hid (byteAt st k = ((st.getD q 0) >>> UInt32.ofNat (24 - 8 * m)).toUInt8) := Lib.hid (by rw [hq, hm]; rfl)
          have hq1 : (k : Int).tdiv 4 = (q : Int) := by rw [hq]; exact (Int.ofNat_tdiv k 4).symm
          have hq2 : (k : Int) / 4 = (q : Int) := by omega
          have hm1 : (k : Int).tmod 4 = (m : Int) := by rw [hm]; exact (Int.ofNat_tmod k 4).symm
          have hm2 : (k : Int) % 4 = (m : Int) := by omega
          have hq8 : q < 8 := by omega
          have hm4 : m < 4 := by omega
          clear hq hm
          have cq : wr.cell? (ad.add q) = some (W (st.getD q 0)) := (HW.out.cell (by rw [block_of_add]; exact HADB.out)).trans (HCE.out q hq8)
          generalize st.getD q 0 = xq at cq HV
          have hsr : ∀ x wx, (binOp .shr 79 (W x) (.int .i64 (24 - 8 * (m : Int)))).run Tryz.prog wx = .ok (W (x >>> UInt32.ofNat (24 - 8 * m))) wx := fun x wx => by
            rw [show (24 - 8 * (m : Int)) = ((24 - 8 * m : Nat) : Int) by omega]
            exact shr_W x wx .i64 (24 - 8 * m) (by omega)
          have hbw := byte_W
          have hw1 : IntKind.i64.wrap (8 * (m : Int)) = 8 * (m : Int) := IntWalk.i64_in _ (by omega)
          have hw2 : IntKind.i64.wrap (24 - 8 * (m : Int)) = 24 - 8 * (m : Int) := IntWalk.i64_in _ (by omega)
          have p1 : 0 ≤ (q : Int) ∧ (q : Int) < 8 := by omega
          have p2 : 0 ≤ (k : Int) ∧ (k : Int) < 32 := by omega
          obtain ⟨u, cu⟩ : ∃ u, wr.cell? ⟨w5.heap.size, k, none⟩ = some u := by
            rw [HD.out.cell k, List.getElem?_toArray, List.getElem?_map, out_getq, if_pos hk32]
            exact ⟨_, rfl⟩
          have fu := HD.out.frozen k
          have hst : ∀ c, (storeCells ⟨w5.heap.size, k, none⟩ [U8 c]).run Tryz.prog wr = .ok () (wr.setCell ⟨w5.heap.size, k, none⟩ (U8 c)) := fun c => store_U8 (w := wr) c cu fu
          have HD2 : Hid (∀ c, c = byteAt st k → Blk (wr.setCell ⟨w5.heap.size, k, none⟩ (U8 c)) w5.heap.size 25 ((outN st (k + 1) 32).map U8).toArray) := Lib.hid (fun c h => by
            have := HD.out.set_ k (U8 c)
            rw [List.setIfInBounds_toArray, ← List.map_set, h, out_set st k 32 hk32] at this
            rw [h]; exact this)
          have HW2 : Hid (∀ c, Below w5.heap.size w5 (wr.setCell ⟨w5.heap.size, k, none⟩ (U8 c))) := Lib.hid (fun c => HW.out.setCell (Nat.le_refl _) _)
          have HKW2 : Hid (k + 1 ≤ width z) := Lib.hid hlt
          clear cu fu hlt
          go_wp2
          rw [hst]
          go_wp2
          go_roundw
          case rel => exact ⟨k + 1, by omega, HKW2, by go_num, HW2.out _, HD2.out _ HV.out.symm⟩
          case measure => simp [intOf]; omega
        · have hkz : k = width z := by have := HKW.out; omega
          have hDl : ((outN st k 32).map U8).toArray.size = 32 := by simp [out_len]
          have h1c : (((outN st k 32).map U8).toArray).all (·.oneCell') = true := by
            simp only [List.all_toArray, List.all_map]
            exact List.all_eq_true.2 fun _ _ => rfl
          have HBF : Hid (Below w.heap.size w (wr.setRow w.heap.size ((outN st k 32).map U8).toArray)) := Lib.hid (setRow_below (HB5.out.trans (HW.out.mono HB5.out.size)) (Nat.le_refl _) _)
          have hb6 : wr.heap[w5.heap.size]? = some (.cells ((outN st k 32).map U8).toArray 25 (0, 0)) := HD.out
          have hb2 : wr.heap[w.heap.size]? = some (.cells ((List.replicate 32 (0 : UInt8)).map U8).toArray 25 (0, 0)) := (HW.out.block _ HD5.out.lt).trans HD5.out
          obtain ⟨ZS, hzs⟩ : ∃ ZS, ZS = ((List.replicate 32 (0 : UInt8)).map U8).toArray := ⟨_, rfl⟩
          have hzl : ZS.size = 32 := by rw [hzs]; simp
          rw [← hzs] at hb2
          have HPS : Hid (∀ w', Below w.heap.size w w' → DSumPost w z s (.returned (.agg ((outN st k 32).map U8).toArray)) w') := Lib.hid (fun w' h => ⟨by rw [HST.out, hkz]; rfl, h⟩)
          generalize ((outN st k 32).map U8).toArray = DS at hDl h1c HBF hb6 HPS HD
          have hi3 : (Tryz.prog.info? 25).map (·.size) = some DS.size := by rw [info33, hDl]
          have hfin := setRow_heap wr w.heap.size ZS DS _ _ hb2
          have hk1 : k < 32 → ((k : Int) < max z 1) = False := fun h => by simp only [eq_iff_iff, iff_false]; exact fun h2 => hlt ((HWZ.out k h).1 h2)
          clear hzs HD HW hkz hlt
          by_cases hk32 : k < 32
          all_goals
            first
            | (have hk2 := hk1 hk32)
            | (have hk2 : ¬ k < 32 := hk32)
            clear hk1
            go_wp2_with (first | (refine wpList_load_row rfl 25 _ rfl w5.heap.size rfl 25 _ (0, 0) _ hb6 Tryz.underlying25 rfl hi3 ?_) | (refine wpList_store_row rfl 25 _ _ rfl w.heap.size DS rfl rfl 25 _ hb2 hi3 (hzl.trans hDl.symm) h1c ?_))
            (try simp only [Exit.inBlock, Exit.then])
            refine bodyPost_ret (results_cell_row rfl _ _ w.heap.size 25 DS (0, 0) _ rfl hfin Tryz.underlying25 rfl hi3) rfl ?_
            exact HPS.out _ HBF.out
end Go.Proofs.YtgjelinnpcekmaaGreatDoor
