/-
  The walks of digest.New and digest.Sum at this seat's translation.
-/
import Derived.Test.YtgjelinnpcekmaaGreatDoorShaS
namespace Go.Proofs.YtgjelinnpcekmaaGreatDoor
open Go.RowKit Sha

theorem built_init (z : Int) : Tryz.prog.built 83 [(0, .int .i64 z), (1, .agg (hTab.map W).toArray)] = some (hcells z hTab (List.replicate 64 0) 0).toArray := by kernel_rfl
theorem built_h : Tryz.prog.built 80 [(0, .int .u32 1779033703), (1, .int .u32 3144134277), (2, .int .u32 1013904242), (3, .int .u32 2773480762), (4, .int .u32 1359893119), (5, .int .u32 2600822924), (6, .int .u32 528734635), (7, .int .u32 1541459225)] = some (hTab.map W).toArray := by kernel_rfl
/-- What New leaves. -/
def NewPost (w : World) (z : Int) (e : Ending) (w' : World) : Prop :=
  e = .returned (.pointer (some ⟨w.heap.size, 0, none⟩)) ∧ HshS w' w.heap.size ((width z : Nat) : Int) init ∧ Below w.heap.size w w'
set_option maxHeartbeats 8000000 in
set_option maxRecDepth 100000 in
theorem new_any (z : Int) (w : World) : Calls Tryz.prog 26 #[.int .i64 z] w (NewPost w z) := by
  have HFIN : Hid (∀ z', z' = min (max z 1) 32 → NewPost w z (.returned (.pointer (some ⟨w.heap.size, 0, none⟩))) (w.alloc (.cells (hcells z' hTab (List.replicate 64 0) 0).toArray 83))) := Lib.hid (fun z' h => by
    refine ⟨rfl, ⟨?_, rfl, by simp [init]⟩, (Below.refl _ _).alloc (Nat.le_refl _) _⟩
    have e : ((width z : Nat) : Int) = z' := by rw [h]; unfold width; omega
    rw [e]
    exact Blk.new w _ _)
  have hb1 := built_h
  have hb2 := built_init
  obtain ⟨HC, hHC⟩ : ∃ HC : Int → Array Value, HC = fun z => (hcells z hTab (List.replicate 64 0) 0).toArray := ⟨_, rfl⟩
  have hb3 : ∀ z, Tryz.prog.built 83 [(0, .int .i64 z), (1, .agg (hTab.map W).toArray)] = some (HC z) := fun z => by rw [hHC]; exact hb2 z
  have HH : Hid (∀ z', z' = min (max z 1) 32 → NewPost w z (.returned (.pointer (some ⟨w.heap.size, 0, none⟩))) (w.alloc (.cells (HC z') 83))) := Lib.hid (by rw [hHC]; exact HFIN.out)
  generalize (hTab.map W).toArray = AW at hb1 hb3
  clear HFIN hb2 hHC
  go_enter Tryz.func26, Tryz.ntmps26
  go_wp2_with (first | (refine wpList_build_as rfl 80 _ rfl AW ?hbuilt ?_; case hbuilt => (simp only [List.map_toArray, List.map_cons, List.map_nil]; exact hb1)) | (refine wpList_build_as rfl 83 _ rfl ?cs ?hbuilt ?_; case hbuilt => (simp only [List.map_toArray, List.map_cons, List.map_nil]; exact hb3 _)))
  all_goals
    go_ret
    exact HH.out _ (by omega)

/-- A digest as a value. -/
def digV (z : Int) (s : List UInt8) : Value := .agg ((Sha.digest z s).map U8).toArray
/-- What digest.Sum answers. -/
def DSumPost (w : World) (z : Int) (s : List UInt8) (e : Ending) (w' : World) : Prop := e = .returned (digV z s) ∧ Below w.heap.size w w'
theorem ktab_below {w w' : World} {B : Nat} (hk : KTab w) (hb : Below B w w') (hg : 1 < B) : KTab w' := fun k h => (hb.cell (p := ⟨1, k, none⟩) hg).trans (hk k h)
set_option maxHeartbeats 8000000 in
set_option maxRecDepth 100000 in
theorem dsum_any (z : Int) (s : List UInt8) (w : World) (hk : KTab w) (hg : 1 < w.heap.size) (hs : s.length < 144115188075855872) :
    Calls Tryz.prog 10 #[.int .i64 z, .string ⟨s.toArray⟩] w (DSumPost w z s) := by
  have HK := Lib.hid hk
  have HG := Lib.hid hg
  clear hk hg
  go_enter Tryz.func10, Tryz.ntmps10
  go_wp2_with fail
  have hb0 : Below w.heap.size w (w.alloc (.cells #[Value.int IntKind.u8 0, Value.int IntKind.u8 0, Value.int IntKind.u8 0, Value.int IntKind.u8 0, Value.int IntKind.u8 0, Value.int IntKind.u8 0, Value.int IntKind.u8 0, Value.int IntKind.u8 0, Value.int IntKind.u8 0, Value.int IntKind.u8 0, Value.int IntKind.u8 0, Value.int IntKind.u8 0, Value.int IntKind.u8 0, Value.int IntKind.u8 0, Value.int IntKind.u8 0, Value.int IntKind.u8 0, Value.int IntKind.u8 0, Value.int IntKind.u8 0, Value.int IntKind.u8 0, Value.int IntKind.u8 0, Value.int IntKind.u8 0, Value.int IntKind.u8 0, Value.int IntKind.u8 0, Value.int IntKind.u8 0, Value.int IntKind.u8 0, Value.int IntKind.u8 0, Value.int IntKind.u8 0, Value.int IntKind.u8 0, Value.int IntKind.u8 0, Value.int IntKind.u8 0, Value.int IntKind.u8 0, Value.int IntKind.u8 0] 25)) := (Below.refl _ _).alloc (Nat.le_refl _) _
  have hd0 : Blk (w.alloc (.cells #[Value.int IntKind.u8 0, Value.int IntKind.u8 0, Value.int IntKind.u8 0, Value.int IntKind.u8 0, Value.int IntKind.u8 0, Value.int IntKind.u8 0, Value.int IntKind.u8 0, Value.int IntKind.u8 0, Value.int IntKind.u8 0, Value.int IntKind.u8 0, Value.int IntKind.u8 0, Value.int IntKind.u8 0, Value.int IntKind.u8 0, Value.int IntKind.u8 0, Value.int IntKind.u8 0, Value.int IntKind.u8 0, Value.int IntKind.u8 0, Value.int IntKind.u8 0, Value.int IntKind.u8 0, Value.int IntKind.u8 0, Value.int IntKind.u8 0, Value.int IntKind.u8 0, Value.int IntKind.u8 0, Value.int IntKind.u8 0, Value.int IntKind.u8 0, Value.int IntKind.u8 0, Value.int IntKind.u8 0, Value.int IntKind.u8 0, Value.int IntKind.u8 0, Value.int IntKind.u8 0, Value.int IntKind.u8 0, Value.int IntKind.u8 0] 25)) w.heap.size 25 ((List.replicate 32 (0 : UInt8)).map U8).toArray := Blk.new w _ _
  have hs0 : (w.alloc (.cells #[Value.int IntKind.u8 0, Value.int IntKind.u8 0, Value.int IntKind.u8 0, Value.int IntKind.u8 0, Value.int IntKind.u8 0, Value.int IntKind.u8 0, Value.int IntKind.u8 0, Value.int IntKind.u8 0, Value.int IntKind.u8 0, Value.int IntKind.u8 0, Value.int IntKind.u8 0, Value.int IntKind.u8 0, Value.int IntKind.u8 0, Value.int IntKind.u8 0, Value.int IntKind.u8 0, Value.int IntKind.u8 0, Value.int IntKind.u8 0, Value.int IntKind.u8 0, Value.int IntKind.u8 0, Value.int IntKind.u8 0, Value.int IntKind.u8 0, Value.int IntKind.u8 0, Value.int IntKind.u8 0, Value.int IntKind.u8 0, Value.int IntKind.u8 0, Value.int IntKind.u8 0, Value.int IntKind.u8 0, Value.int IntKind.u8 0, Value.int IntKind.u8 0, Value.int IntKind.u8 0, Value.int IntKind.u8 0, Value.int IntKind.u8 0] 25)).heap.size = w.heap.size + 1 := by simp
  generalize (w.alloc (.cells #[Value.int IntKind.u8 0, Value.int IntKind.u8 0, Value.int IntKind.u8 0, Value.int IntKind.u8 0, Value.int IntKind.u8 0, Value.int IntKind.u8 0, Value.int IntKind.u8 0, Value.int IntKind.u8 0, Value.int IntKind.u8 0, Value.int IntKind.u8 0, Value.int IntKind.u8 0, Value.int IntKind.u8 0, Value.int IntKind.u8 0, Value.int IntKind.u8 0, Value.int IntKind.u8 0, Value.int IntKind.u8 0, Value.int IntKind.u8 0, Value.int IntKind.u8 0, Value.int IntKind.u8 0, Value.int IntKind.u8 0, Value.int IntKind.u8 0, Value.int IntKind.u8 0, Value.int IntKind.u8 0, Value.int IntKind.u8 0, Value.int IntKind.u8 0, Value.int IntKind.u8 0, Value.int IntKind.u8 0, Value.int IntKind.u8 0, Value.int IntKind.u8 0, Value.int IntKind.u8 0, Value.int IntKind.u8 0, Value.int IntKind.u8 0] 25)) = w1 at hb0 hd0 hs0
  refine (new_any z w1).mono ?_
  rintro e w2 ⟨rfl, hx2, hb2⟩
  have HX2 := Lib.hid hx2
  have HB2 := Lib.hid (hb0.trans (hb2.mono (by omega)))
  have HD2 := Lib.hid (hd0.below hb2 (by omega))
  have HS1 := Lib.hid hs0
  clear hb0 hd0 hx2 hb2 hs0
  go_wp2_with fail
  refine (write_any w1.heap.size _ init s w2 HX2.out (ktab_below HK.out HB2.out HG.out) (by have := HB2.out.size; have := HG.out; omega) (by have := HS1.out; have := HG.out; omega) (by simp [init]; omega)).mono ?_
  rintro e w3 ⟨rfl, hx3, hg3⟩
  have HX3 := Lib.hid hx3
  have HB3 := Lib.hid (HB2.out.grown hg3 HB2.out.size (by intro k hk; injection hk with hk; have := HS1.out; omega))
  have HD3 := Lib.hid (HD2.out.grown hg3 (by intro h; injection h with h; have := HS1.out; omega))
  clear hx3 hg3 HX2 HB2 HD2
  go_wp2_with fail
  refine (hsum_any w1.heap.size (width z) _ w3 HX3.out (ktab_below HK.out HB3.out HG.out) (by have := HB3.out.size; have := HG.out; omega) (width_le z).2 (by rw [HS.bytes_n]; simp [init]; omega)).mono ?_
  rintro e w4 ⟨rfl, hb4⟩
  have HB4 := Lib.hid (HB3.out.trans (hb4.mono HB3.out.size))
  have hd4 := HD3.out.below hb4 HD3.out.lt
  rw [HS.sum_text]
  have hDl : ((outN (sha s) (width z) 32).map U8).toArray.size = 32 := by simp [out_len]
  have h1c : (((outN (sha s) (width z) 32).map U8).toArray).all (·.oneCell') = true := by
    simp only [List.all_toArray, List.all_map]
    exact List.all_eq_true.2 fun _ _ => rfl
  have HPS : Hid (∀ w', Below w.heap.size w w' → DSumPost w z s (.returned (.agg ((outN (sha s) (width z) 32).map U8).toArray)) w') := Lib.hid (fun w' h => ⟨rfl, h⟩)
  generalize ((outN (sha s) (width z) 32).map U8).toArray = DS at hDl h1c HPS
  obtain ⟨ZS, hzs⟩ : ∃ ZS, ZS = ((List.replicate 32 (0 : UInt8)).map U8).toArray := ⟨_, rfl⟩
  have hzl : ZS.size = 32 := by rw [hzs]; simp
  rw [← hzs] at hd4
  have hi3 : (Tryz.prog.info? 25).map (·.size) = some DS.size := by rw [info33, hDl]
  have hfin := setRow_heap w4 w.heap.size ZS DS _ _ hd4
  have HBF : Hid (Below w.heap.size w (w4.setRow w.heap.size DS)) := Lib.hid (setRow_below HB4.out (Nat.le_refl _) _)
  clear hzs hb4 HD3 HB3 HX3
  go_wp2_with (refine wpList_store_row rfl 25 _ _ rfl w.heap.size DS rfl rfl 25 _ hd4 hi3 (hzl.trans hDl.symm) h1c ?_)
  (try simp only [Exit.inBlock, Exit.then])
  refine bodyPost_ret (results_cell_row rfl _ _ w.heap.size 25 DS (0, 0) _ rfl hfin Tryz.underlying25 rfl hi3) rfl ?_
  exact HPS.out _ HBF.out
end Go.Proofs.YtgjelinnpcekmaaGreatDoor
