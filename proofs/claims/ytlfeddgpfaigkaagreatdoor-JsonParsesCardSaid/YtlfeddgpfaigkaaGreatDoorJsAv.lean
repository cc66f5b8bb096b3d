/-
  The walk of strataref0's SameJson at this seat: two values that lie as the same tree are the same.
  The Apart.. functions at no lists.
  The walk of stratakit's ApartTexts at this seat, for many lists: what it leaves alone.
  The walk of stratakit's apartJsons at this seat: what it leaves alone.
  stratakit's Book at this seat: what Json, Jsons and Texts write into it.
  The walk of stratakit's Book.Apart at this seat, at a book of texts and values.
-/
import Derived.Test.YtlfeddgpfaigkaaGreatDoorJsGl
import Derived.Test.YtlfeddgpfaigkaaGreatDoorSmt
import Derived.Test.YtlfeddgpfaigkaaGreatDoorApT
import Derived.Deep.MidRow
namespace Go.Proofs.YtlfeddgpfaigkaaGreatDoor
open Go.RowKit
namespace Js
def SameC (n : Nat) : Prop := ∀ (h : Hd) (k : F) (iv kv iv2 kv2 : Value) (S1 S2 : Nat → Prop) (w : World), k.sz ≤ n → TV encJ w S1 h k (jcells h iv kv) → TV encJ w S2 h k (jcells h iv2 kv2) → (∀ b, S1 b → b < w.heap.size) → (∀ b, S2 b → b < w.heap.size) →
  Calls Tryz.prog 19 #[.agg #[.int .i64 h.kind, .int .i64 h.num, .string ⟨h.text.toArray⟩, iv, kv], .agg #[.int .i64 h.kind, .int .i64 h.num, .string ⟨h.text.toArray⟩, iv2, kv2]] w fun x w' => x = .returned (.bool true) ∧ Below w.heap.size w w'
set_option maxHeartbeats 3200000 in
set_option maxRecDepth 100000 in
theorem same_step (n : Nat) (hC : ∀ m, m < n → SameC m) : SameC n := by
  intro h k iv kv iv2 kv2 S1 S2 w hk htv1 htv2 hS1 hS2
  obtain ⟨A1, c1, A2, c2, us1, rfl, rfl, hlk, hlq, hr1, htr1, hq1⟩ := tv_parts htv1
  obtain ⟨D1, d1, D2, d2, us2, rfl, rfl, _, _, hr2, htr2, hq2⟩ := tv_parts htv2
  clear htv1 htv2
  have HC := Lib.hid hC
  have HK := Lib.hid hk
  have HS1 := Lib.hid hS1
  have HS2 := Lib.hid hS2
  have HTR1 := Lib.hid htr1
  have HTR2 := Lib.hid htr2
  have HR1 := Lib.hid (hr1.reads hS1)
  have HR2 := Lib.hid (hr2.reads hS2)
  obtain ⟨L, hL⟩ : ∃ L, L = k.len := ⟨_, rfl⟩
  obtain ⟨nk, hnk⟩ : ∃ nk, nk = h.keys.length := ⟨_, rfl⟩
  obtain ⟨b0, hb0⟩ : ∃ b0, b0 = w.heap.size := ⟨_, rfl⟩
  have HL := Lib.hid hL
  obtain ⟨wz, hwz⟩ : ∃ wz, wz = (w.alloc (.cells #[.int .i64 h.kind, .int .i64 h.num, .string ⟨h.text.toArray⟩, .slice A1 L c1, .slice A2 nk c2] 25)).alloc (.cells #[.int .i64 h.kind, .int .i64 h.num, .string ⟨h.text.toArray⟩, .slice D1 L d1, .slice D2 nk d2] 25) := ⟨_, rfl⟩
  have HBA : Hid (Blk wz b0 25 #[.int .i64 h.kind, .int .i64 h.num, .string ⟨h.text.toArray⟩, .slice A1 L c1, .slice A2 nk c2]) := Lib.hid (by rw [hwz, hb0]; exact Blk.alloc (Blk.new _ _ _) _)
  have HBB : Hid (Blk wz (b0 + 1) 25 #[.int .i64 h.kind, .int .i64 h.num, .string ⟨h.text.toArray⟩, .slice D1 L d1, .slice D2 nk d2]) := Lib.hid (by
    have := Blk.new (w.alloc (.cells #[.int .i64 h.kind, .int .i64 h.num, .string ⟨h.text.toArray⟩, .slice A1 L c1, .slice A2 nk c2] 25)) 25 #[.int .i64 h.kind, .int .i64 h.num, .string ⟨h.text.toArray⟩, .slice D1 L d1, .slice D2 nk d2]
    rw [World.size_alloc] at this
    rw [hwz, hb0]; exact this)
  have HZ : Hid (Below w.heap.size w wz) := Lib.hid (by rw [hwz]; exact ((Below.refl _ _).alloc (Nat.le_refl _) _).alloc (by simp) _)
  have HZS : Hid (wz.heap.size = b0 + 2) := Lib.hid (by rw [hwz, hb0]; simp)
  have HKT : Hid (Calls Tryz.prog 54 #[.slice A2 nk c2, .slice D2 nk d2] wz fun x w' => x = .returned (.bool true) ∧ Below wz.heap.size wz w') := Lib.hid (by
    rw [hnk]
    exact (SameTexts_any A2 D2 h.keys.length c2 h.keys.length d2 w.heap.size w.heap.size h.keys h.keys wz ((hq1.reads hS1).below HZ.out) ((hq2.reads hS2).below HZ.out) HZ.out.size HZ.out.size (by omega) (by omega)).mono fun e w' h => ⟨h.1.trans (by simp), h.2⟩)
  rw [← hL, ← hnk]
  rw [← hL] at HR1 HR2 hlk
  clear hC hk hlq hr1 htr1 hq1 hr2 htr2 hq2 hS1 hS2 hL hnk
  have HXB : Hid (∀ wy, Below wz.heap.size wz wy → wy.cell? ⟨b0, 3, none⟩ = some (.slice A1 L c1) ∧ wy.cell? ⟨b0 + 1, 3, none⟩ = some (.slice D1 L d1)) := Lib.hid (fun wy hb => ⟨(HBA.out.below hb HBA.out.lt).cell 3, (HBB.out.below hb HBB.out.lt).cell 3⟩)
  have a0 := HBA.out.cell 0
  have a1 := HBA.out.cell 1
  have a2 := HBA.out.cell 2
  have a4 := HBA.out.cell 4
  have e0 := HBB.out.cell 0
  have e1 := HBB.out.cell 1
  have e2 := HBB.out.cell 2
  have e4 := HBB.out.cell 4
  go_enter Tryz.func19, Tryz.ntmps19
  go_upto_region 1 with fail
  rw [← hwz, ← hb0]
  clear hwz hb0
  go_wp2_with fail
  refine HKT.out.mono ?_
  rintro x w1 ⟨rfl, hb1⟩
  have HB1 : Hid (Below wz.heap.size wz w1) := Lib.hid hb1
  obtain ⟨a3, e3⟩ := HXB.out w1 hb1
  clear hb1 HKT a0 a1 a2 a4 e0 e1 e2 e4
  go_wp2_with fail
  clear a3 e3
  go_loopw [5] (fun i wr => ∃ j : Nat, j ≤ L ∧ i = .int .i64 j ∧ Hid (Below wz.heap.size wz wr)) (fun i _ => L - (intOf i).toNat)
  case atStart => exact ⟨0, by omega, rfl, HB1⟩
  case round =>
    obtain ⟨j, hj, rfl, HB⟩ := hrel
    obtain ⟨a3, e3⟩ := HXB.out wr HB.out
    by_cases hlt : j < L
    · obtain ⟨h0, kk, he, hsz, htv⟩ := HTR1.out.at_ (i := j) (by have := HL.out; omega)
      obtain ⟨h0', kk', he', _, htv'⟩ := HTR2.out.at_ (i := j) (by have := HL.out; omega)
      obtain ⟨rfl, rfl⟩ : h0 = h0' ∧ kk = kk' := by rw [he] at he'; cases he'; exact ⟨rfl, rfl⟩
      obtain ⟨A6, c6, A7, c7, vs1, ecs1, htv1⟩ := htv
      obtain ⟨A8, c8, A9, c9, vs2, ecs2, htv2⟩ := htv'
      obtain ⟨ad, rfl, hab1, hcs1⟩ := HR1.out.2 (by omega)
      obtain ⟨ad2, rfl, hab2, hcs2⟩ := HR2.out.2 (by omega)
      have HSK : Hid (∀ wy, Below wz.heap.size wz wy → (fun wy => wy.cell? ⟨b0, 3, none⟩ = some (.slice (some ad) L c1) ∧ wy.cell? ⟨b0 + 1, 3, none⟩ = some (.slice (some ad2) L d1) ∧ wy.cell? (ad.add (j * 5)) = some (.int .i64 h0.kind) ∧ wy.cell? ⟨(ad.add (j * 5)).block, (ad.add (j * 5)).off + 1, none⟩ = some (.int .i64 h0.num) ∧ wy.cell? ⟨(ad.add (j * 5)).block, (ad.add (j * 5)).off + 2, none⟩ = some (.string ⟨h0.text.toArray⟩) ∧ wy.cell? ⟨(ad.add (j * 5)).block, (ad.add (j * 5)).off + 3, none⟩ = some (.slice A6 kk.len c6) ∧ wy.cell? ⟨(ad.add (j * 5)).block, (ad.add (j * 5)).off + 4, none⟩ = some (.slice A7 h0.keys.length c7) ∧ wy.cell? (ad2.add (j * 5)) = some (.int .i64 h0.kind) ∧ wy.cell? ⟨(ad2.add (j * 5)).block, (ad2.add (j * 5)).off + 1, none⟩ = some (.int .i64 h0.num) ∧ wy.cell? ⟨(ad2.add (j * 5)).block, (ad2.add (j * 5)).off + 2, none⟩ = some (.string ⟨h0.text.toArray⟩) ∧ wy.cell? ⟨(ad2.add (j * 5)).block, (ad2.add (j * 5)).off + 3, none⟩ = some (.slice A8 kk.len c8) ∧ wy.cell? ⟨(ad2.add (j * 5)).block, (ad2.add (j * 5)).off + 4, none⟩ = some (.slice A9 h0.keys.length c9)) wy) := Lib.hid (fun wy hb0 => by
        have hb : Below w.heap.size w wy := HZ.out.trans (hb0.mono HZ.out.size)
        obtain ⟨x0, x1, x2, x3, x4⟩ := cells5 (fun j u hu => (hb.cell (show (ad.add j).block < w.heap.size by rw [block_of_add]; exact hab1)).trans (hcs1 j u hu)) ecs1
        obtain ⟨y0, y1, y2, y3, y4⟩ := cells5 (fun j u hu => (hb.cell (show (ad2.add j).block < w.heap.size by rw [block_of_add]; exact hab2)).trans (hcs2 j u hu)) ecs2
        obtain ⟨z0, z1⟩ := HXB.out wy hb0
        exact ⟨z0, z1, x0, x1, x2, x3, x4, y0, y1, y2, y3, y4⟩)
      have htv3 : TV encJ w S1 h0 kk (jcells h0 (.slice A6 kk.len c6) (.slice A7 h0.keys.length c7)) := ⟨A6, c6, A7, c7, vs1, rfl, htv1⟩
      have htv4 : TV encJ w S2 h0 kk (jcells h0 (.slice A8 kk.len c8) (.slice A9 h0.keys.length c9)) := ⟨A8, c8, A9, c9, vs2, rfl, htv2⟩
      have HCL : Hid (∀ wy, Below wz.heap.size wz wy → Calls Tryz.prog 19 #[.agg #[.int .i64 h0.kind, .int .i64 h0.num, .string ⟨h0.text.toArray⟩, .slice A6 kk.len c6, .slice A7 h0.keys.length c7], .agg #[.int .i64 h0.kind, .int .i64 h0.num, .string ⟨h0.text.toArray⟩, .slice A8 kk.len c8, .slice A9 h0.keys.length c9]] wy fun x w' => x = .returned (.bool true) ∧ Below wy.heap.size wy w') := Lib.hid (fun wy hb0 => by
        have hb : Below w.heap.size w wy := HZ.out.trans (hb0.mono HZ.out.size)
        exact HC.out kk.sz (by have := HK.out; omega) h0 kk _ _ _ _ S1 S2 wy (Nat.le_refl _) (htv3.kept fun p hp => hb.cell (HS1.out _ hp)) (htv4.kept fun p hp => hb.cell (HS2.out _ hp)) (fun b h => by have := HS1.out b h; have := hb.size; omega) (fun b h => by have := HS2.out b h; have := hb.size; omega))
      clear he he' hsz htv1 htv2 htv3 htv4 ecs1 ecs2 hcs1 hcs2 hab1 hab2
      go_upto_region 6 with fail
      clear a3 e3
      refine wp_region_held_drew (S := (fun wy => wy.cell? ⟨b0, 3, none⟩ = some (.slice (some ad) L c1) ∧ wy.cell? ⟨b0 + 1, 3, none⟩ = some (.slice (some ad2) L d1) ∧ wy.cell? (ad.add (j * 5)) = some (.int .i64 h0.kind) ∧ wy.cell? ⟨(ad.add (j * 5)).block, (ad.add (j * 5)).off + 1, none⟩ = some (.int .i64 h0.num) ∧ wy.cell? ⟨(ad.add (j * 5)).block, (ad.add (j * 5)).off + 2, none⟩ = some (.string ⟨h0.text.toArray⟩) ∧ wy.cell? ⟨(ad.add (j * 5)).block, (ad.add (j * 5)).off + 3, none⟩ = some (.slice A6 kk.len c6) ∧ wy.cell? ⟨(ad.add (j * 5)).block, (ad.add (j * 5)).off + 4, none⟩ = some (.slice A7 h0.keys.length c7) ∧ wy.cell? (ad2.add (j * 5)) = some (.int .i64 h0.kind) ∧ wy.cell? ⟨(ad2.add (j * 5)).block, (ad2.add (j * 5)).off + 1, none⟩ = some (.int .i64 h0.num) ∧ wy.cell? ⟨(ad2.add (j * 5)).block, (ad2.add (j * 5)).off + 2, none⟩ = some (.string ⟨h0.text.toArray⟩) ∧ wy.cell? ⟨(ad2.add (j * 5)).block, (ad2.add (j * 5)).off + 3, none⟩ = some (.slice A8 kk.len c8) ∧ wy.cell? ⟨(ad2.add (j * 5)).block, (ad2.add (j * 5)).off + 4, none⟩ = some (.slice A9 h0.keys.length c9))) (by kernel_rfl) (HSK.out _ HB.out.drew) (fun hHeld => ?_)
      refine tk 0 (h := ?_)
      try simp only [Act.put, List.setIfInBounds_toArray, List.set_cons_zero, List.set_cons_succ]
      refine tk 1 (h := ?_)
      try simp only [Act.put, List.setIfInBounds_toArray, List.set_cons_zero, List.set_cons_succ]
      refine tk 2 (h := ?_)
      try simp only [Act.put, List.setIfInBounds_toArray, List.set_cons_zero, List.set_cons_succ]
      refine tk 3 (h := ?_)
      try simp only [Act.put, List.setIfInBounds_toArray, List.set_cons_zero, List.set_cons_succ]
      refine tk 4 (h := ?_)
      try simp only [Act.put, List.setIfInBounds_toArray, List.set_cons_zero, List.set_cons_succ]
      refine tk 5 (h := ?_)
      try simp only [Act.put, List.setIfInBounds_toArray, List.set_cons_zero, List.set_cons_succ]
      refine tk 6 (h := ?_)
      try simp only [Act.put, List.setIfInBounds_toArray, List.set_cons_zero, List.set_cons_succ]
      refine tk 7 (h := ?_)
      try simp only [Act.put, List.setIfInBounds_toArray, List.set_cons_zero, List.set_cons_succ]
      refine tk 8 (h := ?_)
      try simp only [Act.put, List.setIfInBounds_toArray, List.set_cons_zero, List.set_cons_succ]
      refine tk 9 (h := ?_)
      try simp only [Act.put, List.setIfInBounds_toArray, List.set_cons_zero, List.set_cons_succ]
      refine wpAnyH_ready (rs := [10]) (by kernel_rfl) (by simp) ?_
      refine rdy (fun K hK => ?_) AllReadyH.nil
      rw [if_pos (by rfl)]
      go_simp
      refine (HCL.out _ HB.out.drew).mono ?_
      rintro x w4 ⟨rfl, hb4⟩
      have HB4 : Hid (Below wz.heap.size wz w4) := Lib.hid (HB.out.drew.trans (hb4.mono HB.out.size))
      refine hK.out _ _ (HSK.out _ HB4.out) (fun _ => ?_)
      clear hK hb4
      try simp only [Act.put, List.setIfInBounds_toArray, List.set_cons_zero, List.set_cons_succ]
      refine tk 11 (h := ?_)
      try simp only [Act.put, List.setIfInBounds_toArray, List.set_cons_zero, List.set_cons_succ]
      refine wpAnyH_done (by kernel_rfl) ?_ _
      go_wp2_with fail
      go_roundw
      case rel => exact ⟨j + 1, by omega, by go_num, HB4⟩
      case measure => simp [intOf]; omega
    · obtain rfl : L = j := by omega
      go_wp2_with fail
      go_ret
      exact ⟨rfl, HZ.out.trans (HB.out.mono HZ.out.size)⟩
theorem same_any (n : Nat) : SameC n := by
  induction n using Nat.strongRecOn with
  | ind n ih => exact same_step n ih
end Js
end Go.Proofs.YtlfeddgpfaigkaaGreatDoor
namespace Go.Proofs.YtlfeddgpfaigkaaGreatDoor
open Go.RowKit
namespace Js
set_option maxRecDepth 100000 in
theorem apartBytes_nil (w : World) : Calls Tryz.prog 57 #[.slice none 0 0] w fun x w' => x = .returned (.bool true) ∧ w' = w := by
  go_enter Tryz.func57, Tryz.ntmps57
  go_wp2_with fail
  go_loopw [3] (fun i wr => i = .int .i64 0 ∧ wr = w) (fun _ _ => 0)
  case atStart => exact ⟨rfl, rfl⟩
  case round =>
    obtain ⟨rfl, rfl⟩ := hrel
    go_wp2_with fail
    go_loopw [5, 6] (fun g i wx => g = .slice none 0 0 ∧ i = .int .i64 0 ∧ wx = wr) (fun _ _ _ => 0)
    case atStart => exact ⟨rfl, rfl, rfl⟩
    case round =>
      obtain ⟨rfl, rfl, rfl⟩ := hrel
      go_wp2_with fail
      go_loopw [9] (fun i wx => i = .int .i64 0 ∧ wx = wr) (fun _ _ => 0)
      case atStart => exact ⟨rfl, rfl⟩
      case round =>
        obtain ⟨rfl, rfl⟩ := hrel
        go_wp2_with fail
        go_ret
        exact ⟨rfl, rfl⟩
set_option maxRecDepth 100000 in
theorem apartInts_nil (w : World) : Calls Tryz.prog 59 #[.slice none 0 0] w fun x w' => x = .returned (.bool true) ∧ w' = w := by
  go_enter Tryz.func59, Tryz.ntmps59
  go_wp2_with fail
  go_loopw [3] (fun i wr => i = .int .i64 0 ∧ wr = w) (fun _ _ => 0)
  case atStart => exact ⟨rfl, rfl⟩
  case round =>
    obtain ⟨rfl, rfl⟩ := hrel
    go_wp2_with fail
    go_loopw [5, 6] (fun g i wx => g = .slice none 0 0 ∧ i = .int .i64 0 ∧ wx = wr) (fun _ _ _ => 0)
    case atStart => exact ⟨rfl, rfl, rfl⟩
    case round =>
      obtain ⟨rfl, rfl, rfl⟩ := hrel
      go_wp2_with fail
      go_loopw [9] (fun i wx => i = .int .i64 0 ∧ wx = wr) (fun _ _ => 0)
      case atStart => exact ⟨rfl, rfl⟩
      case round =>
        obtain ⟨rfl, rfl⟩ := hrel
        go_wp2_with fail
        go_ret
        exact ⟨rfl, rfl⟩
set_option maxRecDepth 100000 in
theorem apartEntries_nil (w : World) : Calls Tryz.prog 60 #[.slice none 0 0] w fun x w' => x = .returned (.bool true) ∧ w' = w := by
  go_enter Tryz.func60, Tryz.ntmps60
  go_wp2_with fail
  go_loopw [3] (fun i wr => i = .int .i64 0 ∧ wr = w) (fun _ _ => 0)
  case atStart => exact ⟨rfl, rfl⟩
  case round =>
    obtain ⟨rfl, rfl⟩ := hrel
    go_wp2_with fail
    go_loopw [5, 6] (fun g i wx => g = .slice none 0 0 ∧ i = .int .i64 0 ∧ wx = wr) (fun _ _ _ => 0)
    case atStart => exact ⟨rfl, rfl, rfl⟩
    case round =>
      obtain ⟨rfl, rfl, rfl⟩ := hrel
      go_wp2_with fail
      go_loopw [9] (fun i wx => i = .int .i64 0 ∧ wx = wr) (fun _ _ => 0)
      case atStart => exact ⟨rfl, rfl⟩
      case round =>
        obtain ⟨rfl, rfl⟩ := hrel
        go_wp2_with fail
        go_ret
        exact ⟨rfl, rfl⟩
set_option maxRecDepth 100000 in
theorem apartChanges_nil (w : World) : Calls Tryz.prog 61 #[.slice none 0 0] w fun x w' => x = .returned (.bool true) ∧ w' = w := by
  go_enter Tryz.func61, Tryz.ntmps61
  go_wp2_with fail
  go_loopw [3] (fun i wr => i = .int .i64 0 ∧ wr = w) (fun _ _ => 0)
  case atStart => exact ⟨rfl, rfl⟩
  case round =>
    obtain ⟨rfl, rfl⟩ := hrel
    go_wp2_with fail
    go_loopw [5, 6] (fun g i wx => g = .slice none 0 0 ∧ i = .int .i64 0 ∧ wx = wr) (fun _ _ _ => 0)
    case atStart => exact ⟨rfl, rfl, rfl⟩
    case round =>
      obtain ⟨rfl, rfl, rfl⟩ := hrel
      go_wp2_with fail
      go_loopw [9] (fun i wx => i = .int .i64 0 ∧ wx = wr) (fun _ _ => 0)
      case atStart => exact ⟨rfl, rfl⟩
      case round =>
        obtain ⟨rfl, rfl⟩ := hrel
        go_wp2_with fail
        go_ret
        exact ⟨rfl, rfl⟩
set_option maxRecDepth 100000 in
theorem apartMembers_nil (w : World) : Calls Tryz.prog 62 #[.slice none 0 0] w fun x w' => x = .returned (.bool true) ∧ w' = w := by
  go_enter Tryz.func62, Tryz.ntmps62
  go_wp2_with fail
  go_loopw [3] (fun i wr => i = .int .i64 0 ∧ wr = w) (fun _ _ => 0)
  case atStart => exact ⟨rfl, rfl⟩
  case round =>
    obtain ⟨rfl, rfl⟩ := hrel
    go_wp2_with fail
    go_loopw [5, 6] (fun g i wx => g = .slice none 0 0 ∧ i = .int .i64 0 ∧ wx = wr) (fun _ _ _ => 0)
    case atStart => exact ⟨rfl, rfl, rfl⟩
    case round =>
      obtain ⟨rfl, rfl, rfl⟩ := hrel
      go_wp2_with fail
      go_loopw [9] (fun i wx => i = .int .i64 0 ∧ wx = wr) (fun _ _ => 0)
      case atStart => exact ⟨rfl, rfl⟩
      case round =>
        obtain ⟨rfl, rfl⟩ := hrel
        go_wp2_with fail
        go_ret
        exact ⟨rfl, rfl⟩
set_option maxRecDepth 100000 in
theorem apartPairs_nil (w : World) : Calls Tryz.prog 63 #[.slice none 0 0] w fun x w' => x = .returned (.bool true) ∧ w' = w := by
  go_enter Tryz.func63, Tryz.ntmps63
  go_wp2_with fail
  go_loopw [3] (fun i wr => i = .int .i64 0 ∧ wr = w) (fun _ _ => 0)
  case atStart => exact ⟨rfl, rfl⟩
  case round =>
    obtain ⟨rfl, rfl⟩ := hrel
    go_wp2_with fail
    go_loopw [5, 6] (fun g i wx => g = .slice none 0 0 ∧ i = .int .i64 0 ∧ wx = wr) (fun _ _ _ => 0)
    case atStart => exact ⟨rfl, rfl, rfl⟩
    case round =>
      obtain ⟨rfl, rfl, rfl⟩ := hrel
      go_wp2_with fail
      go_loopw [9] (fun i wx => i = .int .i64 0 ∧ wx = wr) (fun _ _ => 0)
      case atStart => exact ⟨rfl, rfl⟩
      case round =>
        obtain ⟨rfl, rfl⟩ := hrel
        go_wp2_with fail
        go_ret
        exact ⟨rfl, rfl⟩
set_option maxRecDepth 100000 in
theorem apartDigests_nil (w : World) : Calls Tryz.prog 64 #[.slice none 0 0] w fun x w' => x = .returned (.bool true) ∧ w' = w := by
  go_enter Tryz.func64, Tryz.ntmps64
  go_wp2_with fail
  go_loopw [3] (fun i wr => i = .int .i64 0 ∧ wr = w) (fun _ _ => 0)
  case atStart => exact ⟨rfl, rfl⟩
  case round =>
    obtain ⟨rfl, rfl⟩ := hrel
    go_wp2_with fail
    go_loopw [5, 6] (fun g i wx => g = .slice none 0 0 ∧ i = .int .i64 0 ∧ wx = wr) (fun _ _ _ => 0)
    case atStart => exact ⟨rfl, rfl, rfl⟩
    case round =>
      obtain ⟨rfl, rfl, rfl⟩ := hrel
      go_wp2_with fail
      go_loopw [9] (fun i wx => i = .int .i64 0 ∧ wx = wr) (fun _ _ => 0)
      case atStart => exact ⟨rfl, rfl⟩
      case round =>
        obtain ⟨rfl, rfl⟩ := hrel
        go_wp2_with fail
        go_ret
        exact ⟨rfl, rfl⟩
set_option maxRecDepth 100000 in
theorem apartPasts_nil (w : World) : Calls Tryz.prog 65 #[.slice none 0 0] w fun x w' => x = .returned (.bool true) ∧ w' = w := by
  go_enter Tryz.func65, Tryz.ntmps65
  go_wp2_with fail
  go_loopw [3] (fun i wr => i = .int .i64 0 ∧ wr = w) (fun _ _ => 0)
  case atStart => exact ⟨rfl, rfl⟩
  case round =>
    obtain ⟨rfl, rfl⟩ := hrel
    go_wp2_with fail
    go_loopw [5, 6] (fun g i wx => g = .slice none 0 0 ∧ i = .int .i64 0 ∧ wx = wr) (fun _ _ _ => 0)
    case atStart => exact ⟨rfl, rfl, rfl⟩
    case round =>
      obtain ⟨rfl, rfl, rfl⟩ := hrel
      go_wp2_with fail
      go_loopw [9] (fun i wx => i = .int .i64 0 ∧ wx = wr) (fun _ _ => 0)
      case atStart => exact ⟨rfl, rfl⟩
      case round =>
        obtain ⟨rfl, rfl⟩ := hrel
        go_wp2_with fail
        go_ret
        exact ⟨rfl, rfl⟩
set_option maxRecDepth 100000 in
theorem apartWords_nil (w : World) : Calls Tryz.prog 66 #[.slice none 0 0] w fun x w' => x = .returned (.bool true) ∧ w' = w := by
  go_enter Tryz.func66, Tryz.ntmps66
  go_wp2_with fail
  go_loopw [3] (fun i wr => i = .int .i64 0 ∧ wr = w) (fun _ _ => 0)
  case atStart => exact ⟨rfl, rfl⟩
  case round =>
    obtain ⟨rfl, rfl⟩ := hrel
    go_wp2_with fail
    go_loopw [5, 6] (fun g i wx => g = .slice none 0 0 ∧ i = .int .i64 0 ∧ wx = wr) (fun _ _ _ => 0)
    case atStart => exact ⟨rfl, rfl, rfl⟩
    case round =>
      obtain ⟨rfl, rfl, rfl⟩ := hrel
      go_wp2_with fail
      go_loopw [9] (fun i wx => i = .int .i64 0 ∧ wx = wr) (fun _ _ => 0)
      case atStart => exact ⟨rfl, rfl⟩
      case round =>
        obtain ⟨rfl, rfl⟩ := hrel
        go_wp2_with fail
        go_ret
        exact ⟨rfl, rfl⟩
set_option maxRecDepth 100000 in
theorem apartMarks_nil (w : World) : Calls Tryz.prog 67 #[.slice none 0 0] w fun x w' => x = .returned (.bool true) ∧ w' = w := by
  go_enter Tryz.func67, Tryz.ntmps67
  go_wp2_with fail
  go_loopw [3] (fun i wr => i = .int .i64 0 ∧ wr = w) (fun _ _ => 0)
  case atStart => exact ⟨rfl, rfl⟩
  case round =>
    obtain ⟨rfl, rfl⟩ := hrel
    go_wp2_with fail
    go_loopw [5, 6] (fun g i wx => g = .slice none 0 0 ∧ i = .int .i64 0 ∧ wx = wr) (fun _ _ _ => 0)
    case atStart => exact ⟨rfl, rfl, rfl⟩
    case round =>
      obtain ⟨rfl, rfl, rfl⟩ := hrel
      go_wp2_with fail
      go_loopw [9] (fun i wx => i = .int .i64 0 ∧ wx = wr) (fun _ _ => 0)
      case atStart => exact ⟨rfl, rfl⟩
      case round =>
        obtain ⟨rfl, rfl⟩ := hrel
        go_wp2_with fail
        go_ret
        exact ⟨rfl, rfl⟩
set_option maxRecDepth 100000 in
theorem apartDocs_nil (w : World) : Calls Tryz.prog 68 #[.slice none 0 0] w fun x w' => x = .returned (.bool true) ∧ w' = w := by
  go_enter Tryz.func68, Tryz.ntmps68
  go_wp2_with fail
  go_loopw [3] (fun i wr => i = .int .i64 0 ∧ wr = w) (fun _ _ => 0)
  case atStart => exact ⟨rfl, rfl⟩
  case round =>
    obtain ⟨rfl, rfl⟩ := hrel
    go_wp2_with fail
    go_loopw [5, 6] (fun g i wx => g = .slice none 0 0 ∧ i = .int .i64 0 ∧ wx = wr) (fun _ _ _ => 0)
    case atStart => exact ⟨rfl, rfl, rfl⟩
    case round =>
      obtain ⟨rfl, rfl, rfl⟩ := hrel
      go_wp2_with fail
      go_loopw [9] (fun i wx => i = .int .i64 0 ∧ wx = wr) (fun _ _ => 0)
      case atStart => exact ⟨rfl, rfl⟩
      case round =>
        obtain ⟨rfl, rfl⟩ := hrel
        go_wp2_with fail
        go_ret
        exact ⟨rfl, rfl⟩
set_option maxRecDepth 100000 in
theorem apartRefs_nil (w : World) : Calls Tryz.prog 69 #[.slice none 0 0] w fun x w' => x = .returned (.bool true) ∧ w' = w := by
  go_enter Tryz.func69, Tryz.ntmps69
  go_wp2_with fail
  go_loopw [3] (fun i wr => i = .int .i64 0 ∧ wr = w) (fun _ _ => 0)
  case atStart => exact ⟨rfl, rfl⟩
  case round =>
    obtain ⟨rfl, rfl⟩ := hrel
    go_wp2_with fail
    go_loopw [5, 6] (fun g i wx => g = .slice none 0 0 ∧ i = .int .i64 0 ∧ wx = wr) (fun _ _ _ => 0)
    case atStart => exact ⟨rfl, rfl, rfl⟩
    case round =>
      obtain ⟨rfl, rfl, rfl⟩ := hrel
      go_wp2_with fail
      go_loopw [9] (fun i wx => i = .int .i64 0 ∧ wx = wr) (fun _ _ => 0)
      case atStart => exact ⟨rfl, rfl⟩
      case round =>
        obtain ⟨rfl, rfl⟩ := hrel
        go_wp2_with fail
        go_ret
        exact ⟨rfl, rfl⟩
set_option maxRecDepth 100000 in
theorem apartPieces_nil (w : World) : Calls Tryz.prog 70 #[.slice none 0 0] w fun x w' => x = .returned (.bool true) ∧ w' = w := by
  go_enter Tryz.func70, Tryz.ntmps70
  go_wp2_with fail
  go_loopw [3] (fun i wr => i = .int .i64 0 ∧ wr = w) (fun _ _ => 0)
  case atStart => exact ⟨rfl, rfl⟩
  case round =>
    obtain ⟨rfl, rfl⟩ := hrel
    go_wp2_with fail
    go_loopw [5, 6] (fun g i wx => g = .slice none 0 0 ∧ i = .int .i64 0 ∧ wx = wr) (fun _ _ _ => 0)
    case atStart => exact ⟨rfl, rfl, rfl⟩
    case round =>
      obtain ⟨rfl, rfl, rfl⟩ := hrel
      go_wp2_with fail
      go_loopw [9] (fun i wx => i = .int .i64 0 ∧ wx = wr) (fun _ _ => 0)
      case atStart => exact ⟨rfl, rfl⟩
      case round =>
        obtain ⟨rfl, rfl⟩ := hrel
        go_wp2_with fail
        go_ret
        exact ⟨rfl, rfl⟩
set_option maxRecDepth 100000 in
theorem apartKeeps_nil (w : World) : Calls Tryz.prog 71 #[.slice none 0 0] w fun x w' => x = .returned (.bool true) ∧ w' = w := by
  go_enter Tryz.func71, Tryz.ntmps71
  go_wp2_with fail
  go_loopw [3] (fun i wr => i = .int .i64 0 ∧ wr = w) (fun _ _ => 0)
  case atStart => exact ⟨rfl, rfl⟩
  case round =>
    obtain ⟨rfl, rfl⟩ := hrel
    go_wp2_with fail
    go_loopw [5, 6] (fun g i wx => g = .slice none 0 0 ∧ i = .int .i64 0 ∧ wx = wr) (fun _ _ _ => 0)
    case atStart => exact ⟨rfl, rfl, rfl⟩
    case round =>
      obtain ⟨rfl, rfl, rfl⟩ := hrel
      go_wp2_with fail
      go_loopw [9] (fun i wx => i = .int .i64 0 ∧ wx = wr) (fun _ _ => 0)
      case atStart => exact ⟨rfl, rfl⟩
      case round =>
        obtain ⟨rfl, rfl⟩ := hrel
        go_wp2_with fail
        go_ret
        exact ⟨rfl, rfl⟩
set_option maxRecDepth 100000 in
theorem apartDids_nil (w : World) : Calls Tryz.prog 72 #[.slice none 0 0] w fun x w' => x = .returned (.bool true) ∧ w' = w := by
  go_enter Tryz.func72, Tryz.ntmps72
  go_wp2_with fail
  go_loopw [3] (fun i wr => i = .int .i64 0 ∧ wr = w) (fun _ _ => 0)
  case atStart => exact ⟨rfl, rfl⟩
  case round =>
    obtain ⟨rfl, rfl⟩ := hrel
    go_wp2_with fail
    go_loopw [5, 6] (fun g i wx => g = .slice none 0 0 ∧ i = .int .i64 0 ∧ wx = wr) (fun _ _ _ => 0)
    case atStart => exact ⟨rfl, rfl, rfl⟩
    case round =>
      obtain ⟨rfl, rfl, rfl⟩ := hrel
      go_wp2_with fail
      go_loopw [9] (fun i wx => i = .int .i64 0 ∧ wx = wr) (fun _ _ => 0)
      case atStart => exact ⟨rfl, rfl⟩
      case round =>
        obtain ⟨rfl, rfl⟩ := hrel
        go_wp2_with fail
        go_ret
        exact ⟨rfl, rfl⟩
set_option maxRecDepth 100000 in
theorem apartLosts_nil (w : World) : Calls Tryz.prog 73 #[.slice none 0 0] w fun x w' => x = .returned (.bool true) ∧ w' = w := by
  go_enter Tryz.func73, Tryz.ntmps73
  go_wp2_with fail
  go_loopw [3] (fun i wr => i = .int .i64 0 ∧ wr = w) (fun _ _ => 0)
  case atStart => exact ⟨rfl, rfl⟩
  case round =>
    obtain ⟨rfl, rfl⟩ := hrel
    go_wp2_with fail
    go_loopw [5, 6] (fun g i wx => g = .slice none 0 0 ∧ i = .int .i64 0 ∧ wx = wr) (fun _ _ _ => 0)
    case atStart => exact ⟨rfl, rfl, rfl⟩
    case round =>
      obtain ⟨rfl, rfl, rfl⟩ := hrel
      go_wp2_with fail
      go_loopw [9] (fun i wx => i = .int .i64 0 ∧ wx = wr) (fun _ _ => 0)
      case atStart => exact ⟨rfl, rfl⟩
      case round =>
        obtain ⟨rfl, rfl⟩ := hrel
        go_wp2_with fail
        go_ret
        exact ⟨rfl, rfl⟩
set_option maxRecDepth 100000 in
theorem apartSteps_nil (w : World) : Calls Tryz.prog 74 #[.slice none 0 0] w fun x w' => x = .returned (.bool true) ∧ w' = w := by
  go_enter Tryz.func74, Tryz.ntmps74
  go_wp2_with fail
  go_loopw [3] (fun i wr => i = .int .i64 0 ∧ wr = w) (fun _ _ => 0)
  case atStart => exact ⟨rfl, rfl⟩
  case round =>
    obtain ⟨rfl, rfl⟩ := hrel
    go_wp2_with fail
    go_loopw [6, 7] (fun g i wx => g = .slice none 0 0 ∧ i = .int .i64 0 ∧ wx = wr) (fun _ _ _ => 0)
    case atStart => exact ⟨rfl, rfl, rfl⟩
    case round =>
      obtain ⟨rfl, rfl, rfl⟩ := hrel
      go_wp2_with fail
      go_loopw [11] (fun i wx => i = .int .i64 0 ∧ wx = wr) (fun _ _ => 0)
      case atStart => exact ⟨rfl, rfl⟩
      case round =>
        obtain ⟨rfl, rfl⟩ := hrel
        go_wp2_with fail
        go_ret
        exact ⟨rfl, rfl⟩
set_option maxRecDepth 100000 in
theorem apartStages_nil (w : World) : Calls Tryz.prog 75 #[.slice none 0 0] w fun x w' => x = .returned (.bool true) ∧ w' = w := by
  go_enter Tryz.func75, Tryz.ntmps75
  go_wp2_with fail
  go_loopw [3] (fun i wr => i = .int .i64 0 ∧ wr = w) (fun _ _ => 0)
  case atStart => exact ⟨rfl, rfl⟩
  case round =>
    obtain ⟨rfl, rfl⟩ := hrel
    go_wp2_with fail
    go_loopw [6, 7] (fun g i wx => g = .slice none 0 0 ∧ i = .int .i64 0 ∧ wx = wr) (fun _ _ _ => 0)
    case atStart => exact ⟨rfl, rfl, rfl⟩
    case round =>
      obtain ⟨rfl, rfl, rfl⟩ := hrel
      go_wp2_with fail
      go_loopw [11] (fun i wx => i = .int .i64 0 ∧ wx = wr) (fun _ _ => 0)
      case atStart => exact ⟨rfl, rfl⟩
      case round =>
        obtain ⟨rfl, rfl⟩ := hrel
        go_wp2_with fail
        go_ret
        exact ⟨rfl, rfl⟩
set_option maxRecDepth 100000 in
theorem apartItems_nil (w : World) : Calls Tryz.prog 76 #[.slice none 0 0] w fun x w' => x = .returned (.bool true) ∧ w' = w := by
  go_enter Tryz.func76, Tryz.ntmps76
  go_wp2_with fail
  go_loopw [3] (fun i wr => i = .int .i64 0 ∧ wr = w) (fun _ _ => 0)
  case atStart => exact ⟨rfl, rfl⟩
  case round =>
    obtain ⟨rfl, rfl⟩ := hrel
    go_wp2_with fail
    go_loopw [6, 7] (fun g i wx => g = .slice none 0 0 ∧ i = .int .i64 0 ∧ wx = wr) (fun _ _ _ => 0)
    case atStart => exact ⟨rfl, rfl, rfl⟩
    case round =>
      obtain ⟨rfl, rfl, rfl⟩ := hrel
      go_wp2_with fail
      go_loopw [11] (fun i wx => i = .int .i64 0 ∧ wx = wr) (fun _ _ => 0)
      case atStart => exact ⟨rfl, rfl⟩
      case round =>
        obtain ⟨rfl, rfl⟩ := hrel
        go_wp2_with fail
        go_ret
        exact ⟨rfl, rfl⟩
set_option maxRecDepth 100000 in
theorem apartLines_nil (w : World) : Calls Tryz.prog 77 #[.slice none 0 0] w fun x w' => x = .returned (.bool true) ∧ w' = w := by
  go_enter Tryz.func77, Tryz.ntmps77
  go_wp2_with fail
  go_loopw [3] (fun i wr => i = .int .i64 0 ∧ wr = w) (fun _ _ => 0)
  case atStart => exact ⟨rfl, rfl⟩
  case round =>
    obtain ⟨rfl, rfl⟩ := hrel
    go_wp2_with fail
    go_loopw [6, 7] (fun g i wx => g = .slice none 0 0 ∧ i = .int .i64 0 ∧ wx = wr) (fun _ _ _ => 0)
    case atStart => exact ⟨rfl, rfl, rfl⟩
    case round =>
      obtain ⟨rfl, rfl, rfl⟩ := hrel
      go_wp2_with fail
      go_loopw [11] (fun i wx => i = .int .i64 0 ∧ wx = wr) (fun _ _ => 0)
      case atStart => exact ⟨rfl, rfl⟩
      case round =>
        obtain ⟨rfl, rfl⟩ := hrel
        go_wp2_with fail
        go_ret
        exact ⟨rfl, rfl⟩
set_option maxRecDepth 100000 in
theorem apartNodes_nil (w : World) : Calls Tryz.prog 78 #[.slice none 0 0] w fun x w' => x = .returned (.bool true) ∧ w' = w := by
  go_enter Tryz.func78, Tryz.ntmps78
  go_wp2_with fail
  go_loopw [3] (fun i wr => i = .int .i64 0 ∧ wr = w) (fun _ _ => 0)
  case atStart => exact ⟨rfl, rfl⟩
  case round =>
    obtain ⟨rfl, rfl⟩ := hrel
    go_wp2_with fail
    go_loopw [6, 7] (fun g i wx => g = .slice none 0 0 ∧ i = .int .i64 0 ∧ wx = wr) (fun _ _ _ => 0)
    case atStart => exact ⟨rfl, rfl, rfl⟩
    case round =>
      obtain ⟨rfl, rfl, rfl⟩ := hrel
      go_wp2_with fail
      go_loopw [11] (fun i wx => i = .int .i64 0 ∧ wx = wr) (fun _ _ => 0)
      case atStart => exact ⟨rfl, rfl⟩
      case round =>
        obtain ⟨rfl, rfl⟩ := hrel
        go_wp2_with fail
        go_ret
        exact ⟨rfl, rfl⟩
set_option maxRecDepth 100000 in
theorem apartLevels_nil (w : World) : Calls Tryz.prog 79 #[.slice none 0 0] w fun x w' => x = .returned (.bool true) ∧ w' = w := by
  go_enter Tryz.func79, Tryz.ntmps79
  go_wp2_with fail
  go_loopw [3] (fun i wr => i = .int .i64 0 ∧ wr = w) (fun _ _ => 0)
  case atStart => exact ⟨rfl, rfl⟩
  case round =>
    obtain ⟨rfl, rfl⟩ := hrel
    go_wp2_with fail
    go_loopw [6, 7] (fun g i wx => g = .slice none 0 0 ∧ i = .int .i64 0 ∧ wx = wr) (fun _ _ _ => 0)
    case atStart => exact ⟨rfl, rfl, rfl⟩
    case round =>
      obtain ⟨rfl, rfl, rfl⟩ := hrel
      go_wp2_with fail
      go_loopw [11] (fun i wx => i = .int .i64 0 ∧ wx = wr) (fun _ _ => 0)
      case atStart => exact ⟨rfl, rfl⟩
      case round =>
        obtain ⟨rfl, rfl⟩ := hrel
        go_wp2_with fail
        go_ret
        exact ⟨rfl, rfl⟩
end Js
end Go.Proofs.YtlfeddgpfaigkaaGreatDoor
namespace Go.Proofs.YtlfeddgpfaigkaaGreatDoor
open Go.RowKit
namespace Js
/-- The blocks of the rows. -/
def Ow (m : Nat) (V : Nat → Value) (b : Nat) : Prop := ∃ k, k < m ∧ (V k).ownBlock = some b
set_option maxHeartbeats 8000000 in
set_option maxRecDepth 100000 in
theorem apartTextsK (w : World) (B L m cm : Nat) (cs : Array Value) (V : Nat → Value) (N : Nat → Nat) (X : Nat → List Value) (hL : Blk w L 23 cs) (hcs : ∀ k, k < m → cs[k]? = some (V k))
    (hR : Rws w B 9 1 m V N X) (hB : B ≤ w.heap.size) (hm : m ≤ 16777216) (hN : ∀ k, k < m → N k ≤ 10000000) :
    Calls Tryz.prog 58 #[.slice (some ⟨L, 0, none⟩) m cm] w fun e w' => e = .returned (.bool true) ∧ Kp w.heap.size (Ow m V) w w' := by
  have HCS := Lib.hid hcs
  have HN := Lib.hid hN
  have HR0 := Lib.hid hR
  have HL0 := Lib.hid hL
  have HLL := Lib.hid hL.lt
  clear hcs hN hR hL
  obtain ⟨i0, hi0, hz0, hz1, hz2⟩ := info_parts infoStr
  obtain ⟨i1, hi1, hy0, hy1, hy2⟩ := info_parts infoLists
  go_enter Tryz.func58, Tryz.ntmps58
  go_wp2_with fail
  go_loopw [3] (fun i wr => ∃ k : Nat, k ≤ m ∧ i = .int .i64 k ∧ Hid (Rws wr B 9 1 m V N (fun j => if j < k then marks mtV j (N j) else X j)) ∧ Hid (Blk wr L 23 cs) ∧ Hid (Kp w.heap.size (Ow m V) w wr)) (fun i _ => m - (intOf i).toNat)
  case atStart => exact ⟨0, by omega, rfl, Lib.hid (by simpa using HR0.out), HL0, Lib.hid (Kp.refl _ _ _)⟩
  case round =>
    obtain ⟨k, hk, rfl, HR, HL, HW⟩ := hrel
    by_cases hkm : k < m
    · obtain ⟨A, n, c, hV⟩ : ∃ A n c, V k = .slice A n c ∧ N k = n := by
        obtain ⟨A, c, h, _⟩ := own_readsN (HR.out.own k hkm)
        exact ⟨A, N k, c, h, rfl⟩
      have HV := Lib.hid hV
      have hnb := HN.out k hkm
      rw [hV.2] at hnb
      clear hV
      have hX : (X k).length = n * 1 := by have := (HR0.out.own k hkm).1; rw [HV.out.2] at this; exact this
      have HX := Lib.hid hX
      clear hX
      have hgo : k ≤ 16777216 := by omega
      go_wp2_with fail
      go_loopw [4] (fun s wx => ∃ i : Nat, i ≤ n ∧ s = .int .i64 i ∧ Hid (Rws wx B 9 1 m V N (fun j => if j = k then pre mtV 1 k i (X k) else if j < k then marks mtV j (N j) else X j)) ∧ Hid (Blk wx L 23 cs) ∧ Hid (Kp w.heap.size (Ow m V) w wx)) (fun s _ => n - (intOf s).toNat)
      case atStart =>
        refine ⟨0, by omega, rfl, Lib.hid ?_, HL, HW⟩
        have := HR.out
        refine ⟨fun j hj => ?_, this.apart⟩
        have h2 := this.own j hj
        by_cases hjk : j = k
        · subst hjk; simpa [pre_zero] using h2
        · simpa [hjk] using h2
      case round =>
        obtain ⟨i, hi, rfl, HR2, HL2, HW2⟩ := hrel
        clear HR HL HW
        have hc : wr.cell? ⟨L, k, none⟩ = some (.slice A n c) := by rw [HL2.out.cell k, HCS.out k hkm, HV.out.1]
        by_cases hin : i < n
        · have ho := HR2.out.own k hkm
          rw [if_pos rfl, HV.out.1, HV.out.2] at ho
          obtain ⟨g, cap, hv, hBg, hglt⟩ := ho.form (by omega)
          injection hv with hA _ _
          subst hA
          have hpl := pre_len (mk := mtV) (k := k) (mtV_len k) HX.out (Nat.le_of_lt hin)
          obtain ⟨x0, hx0⟩ : ∃ x, (pre mtV 1 k i (X k))[i]? = some x := ⟨_, List.getElem?_eq_getElem (by omega)⟩
          have HO := Lib.hid ho
          have HX0 := Lib.hid hx0
          have HBG := Lib.hid hBg
          have HGL : Hid (g ≠ L) := Lib.hid (fun e => own_blk_ne ho HL2.out (by decide) (by simp [Value.ownBlock, e]))
          have HM := Lib.hid (markTexts_any k (i : Int))
          have hst : ∀ wy : World, wy.ownsRow B 9 1 (.slice (some ⟨g, 0, none⟩) n c) n (pre mtV 1 k i (X k)) → _ := fun wy hO => hO.stored i (.string ⟨(mtI k (i : Int)).toArray⟩)
          rw [pre_one (mtV_len k) HX.out hin (a := .string ⟨(mtI k (i : Int)).toArray⟩) rfl] at hst
          have HST := Lib.hid hst
          clear ho hx0 hBg hglt hpl hst
          generalize mtI k (i : Int) = mx at HM HST
          go_wp2_with fail
          go_region_held3 (fun wy => wy.cell? ⟨L, k, none⟩ = some (.slice (some ⟨g, 0, none⟩) n c)) ((first | exact cell_one_far HGL.out (by assumption) | go_keep)) ((go_at_call 118; refine (HM.out _).mono ?_; rintro e w1 ⟨rfl, hb0⟩; have hb1 : Below wr.heap.size wr w1 := ⟨hb0.os, hb0.tape, hb0.output, hb0.size, hb0.block⟩; have HL3 := Lib.hid (HL2.out.below hb1 HL2.out.lt); have d := (hb1.cell (p := ⟨L, k, none⟩) HL2.out.lt).trans hc; have HO3 := Lib.hid (own_kept HO.out hb1); have t0 : w1.cell? ⟨g, i, none⟩ = some x0 := (HO3.out.cellAt i (by omega)).trans HX0.out; have f0 := HO3.out.frozenAt i; have HR3 := Lib.hid (HR2.out.below hb1); have HW3 := Lib.hid (HW2.out.step hb1 HW2.out.size); clear hb0 hb1))
          have hst := HST.out _ HO3.out
          have HR4 := Lib.hid (HR3.out.turn (X' := fun j => if j = k then pre mtV 1 k (i + 1) (X k) else if j < k then marks mtV j (N j) else X j) hkm (by rw [HV.out.1, HV.out.2]; exact hst.1) (by rw [HV.out.1]; exact hst.2) (fun j => by by_cases e : j = k <;> simp [e]))
          have HL4 := Lib.hid (HL3.out.far (p := ⟨g, i, none⟩) (fun e => HGL.out e.symm) (.string ⟨mx.toArray⟩))
          have HW4 := Lib.hid (HW3.out.setCell (p := ⟨g, i, none⟩) (Or.inr ⟨k, hkm, by rw [HV.out.1]; rfl⟩) (.string ⟨mx.toArray⟩))
          clear hst
          go_wp2
          go_roundw
          case rel => exact ⟨i + 1, by omega, by go_num, HR4, HL4, HW4⟩
          case measure => simp [intOf]; omega
        · have hin2 : i = n := by omega
          have HR4 : Hid (Rws wr B 9 1 m V N (fun j => if j < k + 1 then marks mtV j (N j) else X j)) := Lib.hid (by
            have := HR2.out
            refine ⟨fun j hj => ?_, this.apart⟩
            have h2 := this.own j hj
            by_cases hjk : j = k
            · subst hjk
              rw [if_pos rfl, hin2, pre_all HX.out, ← HV.out.2] at h2
              rw [if_pos (by omega)]
              exact h2
            · rw [if_neg hjk] at h2
              by_cases hlt : j < k
              · rw [if_pos hlt] at h2; rw [if_pos (by omega)]; exact h2
              · rw [if_neg hlt] at h2; rw [if_neg (by omega)]; exact h2)
          clear hin2
          go_wp2
          go_roundw
          case rel => exact ⟨k + 1, by omega, by go_num, HR4, HL2, HW2⟩
          case measure => simp [intOf]; omega
    · have HR4 : Hid (∀ j, j < m → wr.ownsRow B 9 1 (V j) (N j) (marks mtV j (N j))) := Lib.hid (fun j hj => by
        have h2 := HR.out.own j hj
        rwa [if_pos (by omega)] at h2)
      have HAP := Lib.hid HR.out.apart
      clear HR
      clear HL0 HR0
      go_wp2_with fail
      go_loopw [5, 6] (fun v s wr => ∃ (k : Nat) (G : Nat → Value), k ≤ m ∧ s = .int .i64 k ∧ Hid (St2 wr B 9 23 1 m mtV V N k v G) ∧ Hid (∀ b, v.ownBlock = some b → w.heap.size ≤ b) ∧ Hid (Blk wr L 23 cs) ∧ Hid (Kp w.heap.size (Ow m V) w wr)) (fun _ s _ => m - (intOf s).toNat)
      case atStart => exact ⟨0, _, by omega, rfl, Lib.hid (St2.start HR4.out), Lib.hid (fun _ e => by cases e), HL, HW⟩
      case round =>
        clear HR4 HL HW
        obtain ⟨k, G, hk, rfl, HS, HSL, HL, HW⟩ := hrel
        obtain ⟨w0, hw0⟩ : ∃ w0 : World, w0 = wr := ⟨_, rfl⟩
        subst hw0
        have HSZ := Lib.hid HW.out.size
        by_cases hkm : k < m
        · obtain ⟨A, n, c, hV⟩ : ∃ A n c, V k = .slice A n c ∧ N k = n := by
            obtain ⟨A, c, h, _⟩ := own_readsN (HS.out.later k (Nat.le_refl _) hkm)
            exact ⟨A, N k, c, h, rfl⟩
          have HV := Lib.hid hV
          have hnb := HN.out k hkm
          rw [hV.2] at hnb
          clear hV
          have hc : w0.cell? ⟨L, k, none⟩ = some (.slice A n c) := by rw [HL.out.cell k, HCS.out k hkm, HV.out.1]
          have HG0 := Lib.hid (Grow.start (by have := HS.out.later k (Nat.le_refl _) hkm; rwa [HV.out.1, HV.out.2] at this))
          go_wp2_with fail
          go_loopw [7, 8] (fun g s wr => ∃ i : Nat, i ≤ 64 ∧ s = .int .i64 i ∧ Hid (Grow w0 wr B 9 1 mtV k A n c i g) ∧ Hid (Blk wr L 23 cs) ∧ Hid (Kp w.heap.size (Ow m V) w wr)) (fun _ s _ => 64 - (intOf s).toNat)
          case atStart => exact ⟨0, by omega, rfl, HG0, HL, HW⟩
          case round =>
            clear HL HW HG0 hc
            obtain ⟨i, hi, rfl, HG, HL, HW⟩ := hrel
            have hc : wr.cell? ⟨L, k, none⟩ = some (.slice A n c) := by rw [HL.out.cell k, HCS.out k hkm, HV.out.1]
            by_cases hi6 : i < 64
            · have hmk := fun wx => markTexts_any k ((n + i : Nat) : Int) wx
              have HMW : Hid (mtV k (n + i) = [.string ⟨(mtI k ((n + i : Nat) : Int)).toArray⟩]) := Lib.hid rfl
              rw [show ((n + i : Nat) : Int) = (n : Int) + i by omega] at hmk HMW
              have HM := Lib.hid hmk
              clear hmk
              generalize mtI k ((n : Int) + i) = x at HM HMW
              go_wp2_with fail
              refine (HM.out _).mono ?_
              rintro e w1 ⟨rfl, hb1⟩
              have HG1 := Lib.hid (HG.out.below hb1)
              have HL1 := Lib.hid (HL.out.below hb1 HL.out.lt)
              have HW1 := Lib.hid (HW.out.step hb1 HW.out.size)
              clear hb1 HG HL HW hc
              go_wp2_with (at_builtin; refine wpList_append_keep _ rfl _ _ 23 rfl B 9 i0 (.string .empty) 1 16 Tryz.underlying23 hi0 hz0 hz1 hz2 rfl (by decide) _ _ _ rfl (HG1.out.own.alloc _) ⟨w1.heap.size, 0, none⟩ 1 1 [.string ⟨x.toArray⟩] rfl rfl (cell_one_new _ _ _) (by intro x hx; simp at hx; subst hx; rfl) (by unfold maxLen; omega) (by omega) (by have := HW1.out.size; simp; omega) (by omega) ?_; intro v1 w2 ho1 hg1 hk1 hl1)
              have hba := (Below.refl w1.heap.size w1).alloc (Nat.le_refl _) (.cells #[.string ⟨x.toArray⟩] 9)
              have hG2 := HG1.out.below hba
              have hL2 := HL1.out.below hba HL1.out.lt
              have hW2 := HW1.out.step hba HW1.out.size
              have hnL := own_blk_ne hG2.own hL2 (by decide)
              have HG3 : Hid (Grow w0 w2 B 9 1 mtV k A n c (i + 1) v1) := Lib.hid (hG2.step (by rw [HMW.out]; exact ho1) hg1 hk1 hl1)
              have HL3 : Hid (Blk w2 L 23 cs) := Lib.hid (hL2.grown hg1 (fun e => hnL e.symm))
              have HW3 : Hid (Kp w.heap.size (Ow m V) w w2) := Lib.hid (hW2.grown hg1 (by have := HW1.out.size; simp; omega) (fun b hb => by
                rcases hG2.lies with e | ⟨b', hb', e⟩
                · exact Or.inr ⟨k, hkm, by rw [HV.out.1]; exact e.symm.trans hb⟩
                · have e2 := e.symm.trans hb
                  cases e2
                  exact Or.inl (Nat.le_trans HSZ.out hb')))
              clear ho1 hg1 hk1 hl1 hba hG2 hL2 hW2 hnL
              go_roundw
              case rel => exact ⟨i + 1, by omega, by go_num, HG3, HL3, HW3⟩
              case measure => simp [intOf]; omega
            · have hi64 : i = 64 := by omega
              subst hi64
              have hgr : w0.grownBy wr (V k).ownBlock := by rw [HV.out.1]; exact HG.out.gr
              have HGS := Lib.hid (HS.out.gs.kept hgr (YtlfeddgpfaigkaaGreatDoor.own_own_ne HS.out.gs (HS.out.later k (Nat.le_refl _) hkm) (by decide)))
              obtain ⟨gb, gc, hgv, _, _⟩ := HG.out.own.form (by omega)
              subst hgv
              have hba := (Below.refl wr.heap.size wr).alloc (Nat.le_refl _) (.cells #[.slice (some ⟨gb, 0, none⟩) (n + 64) gc] 23)
              have HG1 := Lib.hid (HG.out.below hba)
              have HL1 := Lib.hid (HL.out.below hba HL.out.lt)
              have HW1 := Lib.hid (HW.out.step hba HW.out.size)
              clear hgr hba hc
              go_wp2_with (at_builtin; refine wpList_append_keep _ rfl _ _ 43 rfl B 23 i1 (.slice none 0 0) 1 24 Tryz.underlying43 hi1 hy0 hy1 hy2 rfl (by decide) _ _ _ rfl (HGS.out.alloc _) ⟨wr.heap.size, 0, none⟩ 1 1 [.slice (some ⟨gb, 0, none⟩) (n + 64) gc] rfl rfl (cell_one_new _ _ _) (by intro x hx; simp at hx; subst hx; rfl) (by unfold maxLen; omega) (by omega) (by have := HW.out.size; simp; omega) (by omega) ?_; intro v1 w2 ho1 hg1 hk1 hl1)
              have HS2 : Hid (St2 w2 B 9 23 1 m mtV V N (k + 1) v1 (fun j => if j = k then .slice (some ⟨gb, 0, none⟩) (n + 64) gc else G j)) := Lib.hid (St2.step (by decide) hkm HAP.out HS.out HV.out.1 HV.out.2 HG1.out ho1 hg1 hl1)
              have hgsl := HGS.out.alloc (.cells #[.slice (some ⟨gb, 0, none⟩) (n + 64) gc] 23)
              have HL2 : Hid (Blk w2 L 23 cs) := Lib.hid (HL1.out.grown hg1 (fun e => absurd (HSL.out L e.symm) (by have := HLL.out; omega)))
              have HSL2 : Hid (∀ b, v1.ownBlock = some b → w.heap.size ≤ b) := Lib.hid (fun b e => by
                rcases hl1 with h | h
                · exact HSL.out b (h.symm.trans e)
                · have h2 := HW.out.size
                  rw [h] at e
                  injection e with e
                  simp at e
                  omega)
              have HW2 : Hid (Kp w.heap.size (Ow m V) w w2) := Lib.hid (HW1.out.grown hg1 (by have := HW.out.size; simp; omega) (fun b hb => Or.inl (HSL.out b hb)))
              clear ho1 hg1 hk1 hl1 hgsl
              go_roundw
              case rel => exact ⟨k + 1, _, by omega, by go_num, HS2, HSL2, HL2, HW2⟩
              case measure => simp [intOf]; omega
        · have hkm2 : k = m := by omega
          subst hkm2
          obtain ⟨Ag, cg, hgs, hgr⟩ := own_readsN HS.out.gs
          subst hgs
          have HGR := Lib.hid hgr
          have HGO : Hid (∀ j, j < k → ∃ A1 c1 A2 c2, G j = .slice A1 (N j + 64) c1 ∧ Reads w0 w0.heap.size 1 A1 (N j + 64) (marks mtV j (N j + 64)) ∧ V j = .slice A2 (N j) c2 ∧ Reads w0 w0.heap.size 1 A2 (N j) (marks mtV j (N j))) := Lib.hid (fun j hj => by
            obtain ⟨A1, c1, h1, h2⟩ := own_readsN (HS.out.newr j hj)
            obtain ⟨A2, c2, h3, h4⟩ := HS.out.oldr j hj
            exact ⟨A1, c1, A2, c2, h1, h2, h3, h4⟩)
          clear hgr HS HSL HAP
          go_wp2_with fail
          go_loopw [9] (fun s wr => ∃ j : Nat, j ≤ k ∧ s = .int .i64 j ∧ Hid (Below w0.heap.size w0 wr)) (fun s _ => k - (intOf s).toNat)
          case atStart => exact ⟨0, by omega, rfl, Lib.hid (Below.refl _ _)⟩
          case round =>
            obtain ⟨j, hj, rfl, HX⟩ := hrel
            by_cases hjk : j < k
            · obtain ⟨A1, c1, A2, c2, hG, hR1, hV, hR2⟩ := HGO.out j hjk
              have HR1 := Lib.hid hR1
              have HR2 := Lib.hid hR2
              have HG1 := Lib.hid hG
              have HV1 := Lib.hid hV
              have hnb := HN.out j hjk
              generalize N j = n at HR1 HR2 HG1 HV1 hnb
              clear hG hR1 hV hR2
              obtain ⟨ad, u, rfl, hadb, hu, hc⟩ := HGR.out.at_ hjk
              have hu2 : u = .slice A1 (n + 64) c1 := by
                rw [List.getElem?_map, List.getElem?_range hjk] at hu
                simp at hu
                rw [← hu, HG1.out]
              subst hu2
              have hLc : w0.cell? ⟨L, j, none⟩ = some (.slice A2 n c2) := by rw [HL.out.cell j, HCS.out j hjk, HV1.out]
              have HC := Lib.hid hc
              have HLC := Lib.hid hLc
              have HAD := Lib.hid hadb
              clear hc hLc hu hadb
              have x1 : wr.cell? (ad.add j) = some (.slice A1 (n + 64) c1) := (HX.out.cell (p := ad.add j) (by rw [block_of_add]; exact HAD.out)).trans HC.out
              have x2 : wr.cell? ⟨L, j, none⟩ = some (.slice A2 n c2) := (HX.out.cell (p := ⟨L, j, none⟩) HL.out.lt).trans HLC.out
              go_wp2_with fail
              go_loopw [10] (fun s wr => ∃ i : Nat, i ≤ n + 64 ∧ s = .int .i64 i ∧ Hid (Below w0.heap.size w0 wr)) (fun s _ => n + 64 - (intOf s).toNat)
              case atStart => exact ⟨0, by omega, rfl, HX⟩
              case round =>
                clear HX x1 x2
                obtain ⟨i, hi, rfl, HX⟩ := hrel
                have x1 : wr.cell? (ad.add j) = some (.slice A1 (n + 64) c1) := (HX.out.cell (p := ad.add j) (by rw [block_of_add]; exact HAD.out)).trans HC.out
                by_cases hin : i < n + 64
                · obtain ⟨a1, rfl, b1, y1⟩ := at_one HR1.out hin (marks_get (mtV_len j) (j := 0) hin (by omega))
                  have HY1 := Lib.hid y1
                  have HB1 := Lib.hid b1
                  have HM := Lib.hid (markTexts_any j (i : Int))
                  have ne := fun wx => neq_texts (mtI j (i : Int)) (mtI j (i : Int)) wx
                  rw [decide_eq_false (by simp)] at ne
                  clear y1 b1
                  go_wp2_with fail
                  refine (HM.out _).mono ?_
                  rintro e w1 ⟨rfl, hb1⟩
                  have HX1 := Lib.hid (HX.out.trans (hb1.mono HX.out.size))
                  clear hb1 x1 HM
                  have z1 := (HX1.out.cell (p := ad.add j) (by rw [block_of_add]; exact HAD.out)).trans HC.out
                  have z2 := (HX1.out.cell (p := ⟨L, j, none⟩) HL.out.lt).trans HLC.out
                  have z3 := (HX1.out.cell (p := a1.add i) (by rw [block_of_add]; exact HB1.out)).trans HY1.out
                  by_cases hin2 : i < n
                  · obtain ⟨a2, rfl, b2, y3⟩ := at_one HR2.out hin2 (marks_get (mtV_len j) (j := 0) hin2 (by omega))
                    have z5 := (HX1.out.cell (p := a2.add i) (by rw [block_of_add]; exact b2)).trans y3
                    clear y3 b2
                    generalize mtI j (i : Int) = x at ne z3 z5
                    go_wp2_with fail
                    go_roundw
                    case rel => exact ⟨i + 1, by omega, by go_num, HX1⟩
                    case measure => simp [intOf]; omega
                  · generalize mtI j (i : Int) = x at ne z3
                    go_wp2_with fail
                    go_roundw
                    case rel => exact ⟨i + 1, by omega, by go_num, HX1⟩
                    case measure => simp [intOf]; omega
                · go_wp2
                  go_roundw
                  case rel => exact ⟨j + 1, by omega, by go_num, HX⟩
                  case measure => simp [intOf]; omega
            · go_wp2
              go_ret
              exact ⟨rfl, HW.out.step HX.out HW.out.size⟩
end Js
end Go.Proofs.YtlfeddgpfaigkaaGreatDoor
namespace Go.Proofs.YtlfeddgpfaigkaaGreatDoor
open Go.RowKit
namespace Js
/-- The kind that marks a place. -/
def mjI (k : Nat) (i : Int) : Int := -1000000 * ((k : Int) + 1) - i
/-- A value's mark, its cells. -/
def mkJ (k i : Nat) : List Value := [.int .i64 (mjI k (i : Int)), .int .i64 0, .string ⟨#[]⟩, .slice none 0 0, .slice none 0 0]
theorem mkJ_len (k i : Nat) : (mkJ k i).length = 5 := rfl
theorem infoListsJ : (Tryz.prog.info? 22).map (fun i => (i.zero, i.size, i.bytes)) = some (some (.slice none 0 0), 1, 24) := by kernel_rfl
theorem mj_facts (k : Nat) (i : Int) (hk : k ≤ 16777216) (h0 : 0 ≤ i) (h1 : i ≤ 20000000) : ∃ b1 : Int, IntKind.i64.wrap ((k : Int) + 1) = (k : Int) + 1 ∧ IntKind.i64.wrap (-1000000 * ((k : Int) + 1)) = b1 ∧ IntKind.i64.wrap (b1 - i) = mjI k i ∧ Hid (b1 = -1000000 * ((k : Int) + 1)) :=
  ⟨_, IntWalk.i64_in _ ⟨by omega, by omega⟩, IntWalk.i64_in _ ⟨by omega, by omega⟩, IntWalk.i64_in _ ⟨by omega, by omega⟩, Lib.hid rfl⟩
/-- A place of a row of five cells, its first cell. -/
theorem at_five0 {w : World} {B n : Nat} {A : Option Addr} {xs : List Value} {u : Value} (h : Reads w B 5 A n xs) {k : Nat} (hk : k < n) (hu : xs[k * 5 + 0]? = some u) : ∃ ad, A = some ad ∧ ad.block < B ∧ w.cell? (ad.add (k * 5)) = some u := by
  obtain ⟨ad, hA, hb, hc⟩ := h.2 (by omega)
  exact ⟨ad, hA, hb, hc _ _ hu⟩
theorem cells_new (w : World) (cs : List Value) (t : TypeId) : ∀ j u, cs[j]? = some u → (w.alloc (.cells cs.toArray t)).cell? ((⟨w.heap.size, 0, none⟩ : Addr).add j) = some u := by
  intro j u hj
  rw [Addr.add_mid, Nat.zero_add, (Blk.new w t cs.toArray).cell j]
  simpa using hj
/-- Values laid from a place on. -/
def setL : List Value → Nat → List Value → List Value
  | xs, _, [] => xs
  | xs, o, v :: r => setL (xs.set o v) (o + 1) r
theorem setL_mid : ∀ (vs P Y : List Value), vs.length ≤ Y.length → setL (P ++ Y) P.length vs = P ++ (vs ++ Y.drop vs.length)
  | [], P, Y, _ => by simp [setL]
  | v :: r, P, [], h => by simp at h
  | v :: r, P, y :: Y, h => by
    have h2 := setL_mid r (P ++ [v]) Y (by simpa using h)
    have e : (P ++ y :: Y).set P.length v = (P ++ [v]) ++ Y := by rw [List.set_append_right _ _ (Nat.le_refl _)]; simp
    rw [setL, e]
    rw [List.length_append, List.length_singleton] at h2
    rw [h2]
    simp
theorem pre_all_ {mk : Nat → Nat → List Value} {size k n i : Nat} (h : ∀ i, (mk k i).length = size) {X : List Value} (hX : X.length = n * size) (hi : i < n) : setL (pre mk size k i X) (i * size) (mk k i) = pre mk size k (i + 1) X := by
  have hl := marks_len h i
  have hsz : i * size + size ≤ n * size := by rw [← Nat.succ_mul]; exact Nat.mul_le_mul_right _ hi
  have h2 := setL_mid (mk k i) (marks mk k i) (X.drop (i * size)) (by rw [h, List.length_drop, hX]; omega)
  rw [hl] at h2
  unfold pre
  rw [h2, marks_succ, h, List.drop_drop, Nat.succ_mul]
  simp
theorem stored_cells {base size n c g : Nat} {e : TypeId} : ∀ {w : World} {xs : List Value} (_ : w.ownsRow base e size (.slice (some ⟨g, 0, none⟩) n c) n xs) (vs : List Value) (o : Nat),
    (w.setCells g o vs).ownsRow base e size (.slice (some ⟨g, 0, none⟩) n c) n (setL xs o vs) ∧ w.grownBy (w.setCells g o vs) (some g)
  | w, xs, h, [], o => ⟨h, World.grownBy.refl _ _⟩
  | w, xs, h, v :: r, o => by
    obtain ⟨h1, g1⟩ := h.stored o v
    obtain ⟨h2, g2⟩ := stored_cells h1 r (o + 1)
    exact ⟨h2, ⟨g2.os.trans g1.os, g2.tape.trans g1.tape, g2.output.trans g1.output, Nat.le_trans g1.size g2.size, fun k hk hne => (g2.block k (Nat.lt_of_lt_of_le hk g1.size) hne).trans (g1.block k hk hne)⟩⟩
theorem blk_setCells {g L : Nat} {t : TypeId} {cs : Array Value} (hne : L ≠ g) : ∀ (vs : List Value) (o : Nat) {w : World}, Blk w L t cs → Blk (w.setCells g o vs) L t cs
  | [], _, _, h => h
  | v :: r, o, _, h => blk_setCells hne r (o + 1) (h.far (p := ⟨g, o, none⟩) hne v)
theorem kp_setCells {g B : Nat} {X : Nat → Prop} {a : World} (hp : B ≤ g ∨ X g) : ∀ (vs : List Value) (o : Nat) {w : World}, Kp B X a w → Kp B X a (w.setCells g o vs)
  | [], _, _, h => h
  | v :: r, o, _, h => kp_setCells hp r (o + 1) (h.setCell (p := ⟨g, o, none⟩) hp v)
set_option maxHeartbeats 8000000 in
set_option maxRecDepth 100000 in
theorem apartJsonsK (w : World) (B L m cm : Nat) (cs : Array Value) (V : Nat → Value) (N : Nat → Nat) (X : Nat → List Value) (hL : Blk w L 22 cs) (hcs : ∀ k, k < m → cs[k]? = some (V k))
    (hR : Rws w B 25 5 m V N X) (hB : B ≤ w.heap.size) (hm : m ≤ 16777216) (hN : ∀ k, k < m → N k ≤ 10000000) :
    Calls Tryz.prog 80 #[.slice (some ⟨L, 0, none⟩) m cm] w fun e w' => e = .returned (.bool true) ∧ Kp w.heap.size (Ow m V) w w' := by
  have HCS := Lib.hid hcs
  have HN := Lib.hid hN
  have HR0 := Lib.hid hR
  have HL0 := Lib.hid hL
  have HLL := Lib.hid hL.lt
  clear hcs hN hR hL
  obtain ⟨i0, hi0, hz0, hz1, hz2⟩ := info_parts infoJson
  obtain ⟨i1, hi1, hy0, hy1, hy2⟩ := info_parts infoListsJ
  go_enter Tryz.func80, Tryz.ntmps80
  go_wp2_with fail
  go_loopw [3] (fun i wr => ∃ k : Nat, k ≤ m ∧ i = .int .i64 k ∧ Hid (Rws wr B 25 5 m V N (fun j => if j < k then marks mkJ j (N j) else X j)) ∧ Hid (Blk wr L 22 cs) ∧ Hid (Kp w.heap.size (Ow m V) w wr)) (fun i _ => m - (intOf i).toNat)
  case atStart => exact ⟨0, by omega, rfl, Lib.hid (by simpa using HR0.out), HL0, Lib.hid (Kp.refl _ _ _)⟩
  case round =>
    obtain ⟨k, hk, rfl, HR, HL, HW⟩ := hrel
    by_cases hkm : k < m
    · obtain ⟨A, n, c, hV⟩ : ∃ A n c, V k = .slice A n c ∧ N k = n := by
        obtain ⟨A, c, h, _⟩ := own_readsN (HR.out.own k hkm)
        exact ⟨A, N k, c, h, rfl⟩
      have HV := Lib.hid hV
      have hnb := HN.out k hkm
      rw [hV.2] at hnb
      clear hV
      have hX : (X k).length = n * 5 := by have := (HR0.out.own k hkm).1; rw [HV.out.2] at this; exact this
      have HX := Lib.hid hX
      clear hX
      have hgo : k ≤ 16777216 := by omega
      go_wp2_with fail
      go_loopw [4] (fun s wx => ∃ i : Nat, i ≤ n ∧ s = .int .i64 i ∧ Hid (Rws wx B 25 5 m V N (fun j => if j = k then pre mkJ 5 k i (X k) else if j < k then marks mkJ j (N j) else X j)) ∧ Hid (Blk wx L 22 cs) ∧ Hid (Kp w.heap.size (Ow m V) w wx)) (fun s _ => n - (intOf s).toNat)
      case atStart =>
        refine ⟨0, by omega, rfl, Lib.hid ?_, HL, HW⟩
        have := HR.out
        refine ⟨fun j hj => ?_, this.apart⟩
        have h2 := this.own j hj
        by_cases hjk : j = k
        · subst hjk; simpa [pre_zero] using h2
        · simpa [hjk] using h2
      case round =>
        obtain ⟨i, hi, rfl, HR2, HL2, HW2⟩ := hrel
        clear HR HL HW
        have hc : wr.cell? ⟨L, k, none⟩ = some (.slice A n c) := by rw [HL2.out.cell k, HCS.out k hkm, HV.out.1]
        by_cases hin : i < n
        · have ho := HR2.out.own k hkm
          rw [if_pos rfl, HV.out.1, HV.out.2] at ho
          obtain ⟨g, cap, hv, hBg, hglt⟩ := ho.form (by omega)
          injection hv with hA _ _
          subst hA
          have HGL : Hid (g ≠ L) := Lib.hid (fun e => own_blk_ne ho HL2.out (by decide) (by simp [Value.ownBlock, e]))
          have hth : wr.there g (i * 5) 5 := fun j hj => ⟨by
            rw [ho.cellAt (i * 5 + j) (by omega), List.getElem?_eq_getElem (by rw [pre_len (mk := mkJ) (mkJ_len k) HX.out (Nat.le_of_lt hin)]; omega)]
            rfl, ho.frozenAt _⟩
          have hst := stored_cells ho (mkJ k i) (i * 5)
          rw [pre_all_ (mkJ_len k) HX.out hin] at hst
          have HST := Lib.hid hst
          have HTH := Lib.hid hth
          clear ho hBg hglt hth hst
          obtain ⟨q1, l1, l2, l3, _⟩ := mj_facts k (i : Int) (by omega) (by omega) (by omega)
          have HMJ : Hid (mkJ k i = [.int .i64 (mjI k (i : Int)), .int .i64 0, .string ⟨#[]⟩, .slice none 0 0, .slice none 0 0]) := Lib.hid rfl
          generalize mkJ k i = vs at HST HMJ
          generalize mjI k (i : Int) = mx at l3 HMJ
          go_wp2_with (refine wpList_store_mid rfl 25 _ _ rfl g (i * 5) _ rfl rfl (by exact HTH.out) (by kernel_rfl) (by simp [Value.oneCell']) ?_)
          have hvs := HMJ.out
          subst hvs
          have hst := HST.out
          have HR4 := Lib.hid (HR2.out.turn (X' := fun j => if j = k then pre mkJ 5 k (i + 1) (X k) else if j < k then marks mkJ j (N j) else X j) hkm (by rw [HV.out.1, HV.out.2]; exact hst.1) (by rw [HV.out.1]; exact hst.2) (fun j => by by_cases e : j = k <;> simp [e]))
          have HL4 := Lib.hid (blk_setCells (fun e => HGL.out e.symm) [.int .i64 mx, .int .i64 0, .string ⟨#[]⟩, .slice none 0 0, .slice none 0 0] (i * 5) HL2.out)
          have HW4 := Lib.hid (kp_setCells (Or.inr ⟨k, hkm, by rw [HV.out.1]; rfl⟩) [.int .i64 mx, .int .i64 0, .string ⟨#[]⟩, .slice none 0 0, .slice none 0 0] (i * 5) HW2.out)
          clear hst
          go_roundw
          case rel => exact ⟨i + 1, by omega, by go_num, HR4, HL4, HW4⟩
          case measure => simp [intOf]; omega
        · have hin2 : i = n := by omega
          have HR4 : Hid (Rws wr B 25 5 m V N (fun j => if j < k + 1 then marks mkJ j (N j) else X j)) := Lib.hid (by
            have := HR2.out
            refine ⟨fun j hj => ?_, this.apart⟩
            have h2 := this.own j hj
            by_cases hjk : j = k
            · subst hjk
              rw [if_pos rfl, hin2, pre_all HX.out, ← HV.out.2] at h2
              rw [if_pos (by omega)]
              exact h2
            · rw [if_neg hjk] at h2
              by_cases hlt : j < k
              · rw [if_pos hlt] at h2; rw [if_pos (by omega)]; exact h2
              · rw [if_neg hlt] at h2; rw [if_neg (by omega)]; exact h2)
          clear hin2
          go_wp2
          go_roundw
          case rel => exact ⟨k + 1, by omega, by go_num, HR4, HL2, HW2⟩
          case measure => simp [intOf]; omega
    · have HR4 : Hid (∀ j, j < m → wr.ownsRow B 25 5 (V j) (N j) (marks mkJ j (N j))) := Lib.hid (fun j hj => by
        have h2 := HR.out.own j hj
        rwa [if_pos (by omega)] at h2)
      have HAP := Lib.hid HR.out.apart
      clear HR
      clear HL0 HR0
      go_wp2_with fail
      go_loopw [6, 7] (fun v s wr => ∃ (k : Nat) (G : Nat → Value), k ≤ m ∧ s = .int .i64 k ∧ Hid (St2 wr B 25 22 5 m mkJ V N k v G) ∧ Hid (∀ b, v.ownBlock = some b → w.heap.size ≤ b) ∧ Hid (Blk wr L 22 cs) ∧ Hid (Kp w.heap.size (Ow m V) w wr)) (fun _ s _ => m - (intOf s).toNat)
      case atStart => exact ⟨0, _, by omega, rfl, Lib.hid (St2.start HR4.out), Lib.hid (fun _ e => by cases e), HL, HW⟩
      case round =>
        clear HR4 HL HW
        obtain ⟨k, G, hk, rfl, HS, HSL, HL, HW⟩ := hrel
        obtain ⟨w0, hw0⟩ : ∃ w0 : World, w0 = wr := ⟨_, rfl⟩
        subst hw0
        have HSZ := Lib.hid HW.out.size
        by_cases hkm : k < m
        · obtain ⟨A, n, c, hV⟩ : ∃ A n c, V k = .slice A n c ∧ N k = n := by
            obtain ⟨A, c, h, _⟩ := own_readsN (HS.out.later k (Nat.le_refl _) hkm)
            exact ⟨A, N k, c, h, rfl⟩
          have HV := Lib.hid hV
          have hnb := HN.out k hkm
          rw [hV.2] at hnb
          clear hV
          have hc : w0.cell? ⟨L, k, none⟩ = some (.slice A n c) := by rw [HL.out.cell k, HCS.out k hkm, HV.out.1]
          have HG0 := Lib.hid (Grow.start (by have := HS.out.later k (Nat.le_refl _) hkm; rwa [HV.out.1, HV.out.2] at this))
          go_wp2_with fail
          go_loopw [8, 9] (fun g s wr => ∃ i : Nat, i ≤ 64 ∧ s = .int .i64 i ∧ Hid (Grow w0 wr B 25 5 mkJ k A n c i g) ∧ Hid (Blk wr L 22 cs) ∧ Hid (Kp w.heap.size (Ow m V) w wr)) (fun _ s _ => 64 - (intOf s).toNat)
          case atStart => exact ⟨0, by omega, rfl, HG0, HL, HW⟩
          case round =>
            clear HL HW HG0 hc
            obtain ⟨i, hi, rfl, HG, HL, HW⟩ := hrel
            have hc : wr.cell? ⟨L, k, none⟩ = some (.slice A n c) := by rw [HL.out.cell k, HCS.out k hkm, HV.out.1]
            by_cases hi6 : i < 64
            · go_upto_region 17 with fail
              obtain ⟨q1, l1, l2, l3, HQ1⟩ := mj_facts k (i : Int) (by omega) (by omega) (by omega)
              obtain ⟨b2, l4, l5⟩ : ∃ b2 : Int, IntKind.i64.wrap (q1 - (n : Int)) = b2 ∧ IntKind.i64.wrap (b2 - (i : Int)) = mjI k ((n : Int) + i) := by
                have e := HQ1.out
                refine ⟨_, IntWalk.i64_in _ ⟨by omega, by omega⟩, ?_⟩
                unfold mjI
                rw [show q1 - (n : Int) - (i : Int) = -1000000 * ((k : Int) + 1) - ((n : Int) + i) by omega]
                exact IntWalk.i64_in _ ⟨by omega, by omega⟩
              have HMW : Hid (mkJ k (n + i) = [.int .i64 (mjI k ((n : Int) + i)), .int .i64 0, .string ⟨#[]⟩, .slice none 0 0, .slice none 0 0]) := Lib.hid (by unfold mkJ; rw [show ((n + i : Nat) : Int) = (n : Int) + i by omega])
              generalize mjI k ((n : Int) + i) = mx at l5 HMW
              obtain ⟨w1, hw1⟩ : ∃ w1, w1 = wr := ⟨_, rfl⟩
              subst hw1
              have HG1 := HG
              have HL1 := HL
              have HW1 := HW
              clear HG HL HW l3
              go_upto_region 18 with fail
              go_wp2_with (at_builtin; refine wpList_append_keep _ rfl _ _ 22 rfl B 25 i0 (.agg #[.int .i64 0, .int .i64 0, .string .empty, .slice none 0 0, .slice none 0 0]) 5 80 Tryz.underlying22 hi0 hz0 hz1 hz2 rfl (by decide) _ _ _ rfl (HG1.out.own.alloc _) ⟨w1.heap.size, 0, none⟩ 1 1 [.int .i64 mx, .int .i64 0, .string ⟨#[]⟩, .slice none 0 0, .slice none 0 0] rfl rfl (cells_new _ _ _) (by intro x hx; simp at hx; rcases hx with rfl | rfl | rfl | rfl <;> rfl) (by unfold maxLen; omega) (by omega) (by have := HW1.out.size; simp; omega) (by omega) ?_; intro v1 w2 ho1 hg1 hk1 hl1)
              have hba := (Below.refl w1.heap.size w1).alloc (Nat.le_refl _) (.cells #[.int .i64 mx, .int .i64 0, .string ⟨#[]⟩, .slice none 0 0, .slice none 0 0] 25)
              have hG2 := HG1.out.below hba
              have hL2 := HL1.out.below hba HL1.out.lt
              have hW2 := HW1.out.step hba HW1.out.size
              have hnL := own_blk_ne hG2.own hL2 (by decide)
              have HG3 : Hid (Grow w0 w2 B 25 5 mkJ k A n c (i + 1) v1) := Lib.hid (hG2.step (by rw [HMW.out]; exact ho1) hg1 hk1 hl1)
              have HL3 : Hid (Blk w2 L 22 cs) := Lib.hid (hL2.grown hg1 (fun e => hnL e.symm))
              have HW3 : Hid (Kp w.heap.size (Ow m V) w w2) := Lib.hid (hW2.grown hg1 (by have := HW1.out.size; simp; omega) (fun b hb => by
                rcases hG2.lies with e | ⟨b', hb', e⟩
                · exact Or.inr ⟨k, hkm, by rw [HV.out.1]; exact e.symm.trans hb⟩
                · have e2 := e.symm.trans hb
                  cases e2
                  exact Or.inl (Nat.le_trans HSZ.out hb')))
              clear ho1 hg1 hk1 hl1 hba hG2 hL2 hW2 hnL
              go_roundw
              case rel => exact ⟨i + 1, by omega, by go_num, HG3, HL3, HW3⟩
              case measure => simp [intOf]; omega
            · have hi64 : i = 64 := by omega
              subst hi64
              have hgr : w0.grownBy wr (V k).ownBlock := by rw [HV.out.1]; exact HG.out.gr
              have HGS := Lib.hid (HS.out.gs.kept hgr (YtlfeddgpfaigkaaGreatDoor.own_own_ne HS.out.gs (HS.out.later k (Nat.le_refl _) hkm) (by decide)))
              obtain ⟨gb, gc, hgv, _, _⟩ := HG.out.own.form (by omega)
              subst hgv
              have hba := (Below.refl wr.heap.size wr).alloc (Nat.le_refl _) (.cells #[.slice (some ⟨gb, 0, none⟩) (n + 64) gc] 22)
              have HG1 := Lib.hid (HG.out.below hba)
              have HL1 := Lib.hid (HL.out.below hba HL.out.lt)
              have HW1 := Lib.hid (HW.out.step hba HW.out.size)
              clear hgr hba hc
              go_wp2_with (at_builtin; refine wpList_append_keep _ rfl _ _ 65 rfl B 22 i1 (.slice none 0 0) 1 24 Tryz.underlying65 hi1 hy0 hy1 hy2 rfl (by decide) _ _ _ rfl (HGS.out.alloc _) ⟨wr.heap.size, 0, none⟩ 1 1 [.slice (some ⟨gb, 0, none⟩) (n + 64) gc] rfl rfl (cell_one_new _ _ _) (by intro x hx; simp at hx; subst hx; rfl) (by unfold maxLen; omega) (by omega) (by have := HW.out.size; simp; omega) (by omega) ?_; intro v1 w2 ho1 hg1 hk1 hl1)
              have HS2 : Hid (St2 w2 B 25 22 5 m mkJ V N (k + 1) v1 (fun j => if j = k then .slice (some ⟨gb, 0, none⟩) (n + 64) gc else G j)) := Lib.hid (St2.step (by decide) hkm HAP.out HS.out HV.out.1 HV.out.2 HG1.out ho1 hg1 hl1)
              have hgsl := HGS.out.alloc (.cells #[.slice (some ⟨gb, 0, none⟩) (n + 64) gc] 22)
              have HL2 : Hid (Blk w2 L 22 cs) := Lib.hid (HL1.out.grown hg1 (fun e => absurd (HSL.out L e.symm) (by have := HLL.out; omega)))
              have HSL2 : Hid (∀ b, v1.ownBlock = some b → w.heap.size ≤ b) := Lib.hid (fun b e => by
                rcases hl1 with h | h
                · exact HSL.out b (h.symm.trans e)
                · have h2 := HW.out.size
                  rw [h] at e
                  injection e with e
                  simp at e
                  omega)
              have HW2 : Hid (Kp w.heap.size (Ow m V) w w2) := Lib.hid (HW1.out.grown hg1 (by have := HW.out.size; simp; omega) (fun b hb => Or.inl (HSL.out b hb)))
              clear ho1 hg1 hk1 hl1 hgsl
              go_roundw
              case rel => exact ⟨k + 1, _, by omega, by go_num, HS2, HSL2, HL2, HW2⟩
              case measure => simp [intOf]; omega
        · have hkm2 : k = m := by omega
          subst hkm2
          obtain ⟨Ag, cg, hgs, hgr⟩ := own_readsN HS.out.gs
          subst hgs
          have HGR := Lib.hid hgr
          have HGO : Hid (∀ j, j < k → ∃ A1 c1 A2 c2, G j = .slice A1 (N j + 64) c1 ∧ Reads w0 w0.heap.size 5 A1 (N j + 64) (marks mkJ j (N j + 64)) ∧ V j = .slice A2 (N j) c2 ∧ Reads w0 w0.heap.size 5 A2 (N j) (marks mkJ j (N j))) := Lib.hid (fun j hj => by
            obtain ⟨A1, c1, h1, h2⟩ := own_readsN (HS.out.newr j hj)
            obtain ⟨A2, c2, h3, h4⟩ := HS.out.oldr j hj
            exact ⟨A1, c1, A2, c2, h1, h2, h3, h4⟩)
          clear hgr HS HSL HAP
          go_wp2_with fail
          go_loopw [11] (fun s wr => ∃ j : Nat, j ≤ k ∧ s = .int .i64 j ∧ Hid (Below w0.heap.size w0 wr)) (fun s _ => k - (intOf s).toNat)
          case atStart => exact ⟨0, by omega, rfl, Lib.hid (Below.refl _ _)⟩
          case round =>
            obtain ⟨j, hj, rfl, HX⟩ := hrel
            by_cases hjk : j < k
            · obtain ⟨A1, c1, A2, c2, hG, hR1, hV, hR2⟩ := HGO.out j hjk
              have HR1 := Lib.hid hR1
              have HR2 := Lib.hid hR2
              have HG1 := Lib.hid hG
              have HV1 := Lib.hid hV
              have hnb := HN.out j hjk
              generalize N j = n at HR1 HR2 HG1 HV1 hnb
              clear hG hR1 hV hR2
              obtain ⟨ad, u, rfl, hadb, hu, hc⟩ := HGR.out.at_ hjk
              have hu2 : u = .slice A1 (n + 64) c1 := by
                rw [List.getElem?_map, List.getElem?_range hjk] at hu
                simp at hu
                rw [← hu, HG1.out]
              subst hu2
              have hLc : w0.cell? ⟨L, j, none⟩ = some (.slice A2 n c2) := by rw [HL.out.cell j, HCS.out j hjk, HV1.out]
              have HC := Lib.hid hc
              have HLC := Lib.hid hLc
              have HAD := Lib.hid hadb
              clear hc hLc hu hadb
              have x1 : wr.cell? (ad.add j) = some (.slice A1 (n + 64) c1) := (HX.out.cell (p := ad.add j) (by rw [block_of_add]; exact HAD.out)).trans HC.out
              have x2 : wr.cell? ⟨L, j, none⟩ = some (.slice A2 n c2) := (HX.out.cell (p := ⟨L, j, none⟩) HL.out.lt).trans HLC.out
              go_wp2_with fail
              go_loopw [12] (fun s wr => ∃ i : Nat, i ≤ n + 64 ∧ s = .int .i64 i ∧ Hid (Below w0.heap.size w0 wr)) (fun s _ => n + 64 - (intOf s).toNat)
              case atStart => exact ⟨0, by omega, rfl, HX⟩
              case round =>
                clear HX x1 x2
                obtain ⟨i, hi, rfl, HX⟩ := hrel
                have x1 : wr.cell? (ad.add j) = some (.slice A1 (n + 64) c1) := (HX.out.cell (p := ad.add j) (by rw [block_of_add]; exact HAD.out)).trans HC.out
                by_cases hin : i < n + 64
                · obtain ⟨a1, rfl, b1, y1⟩ := at_five0 HR1.out hin (marks_get (mkJ_len j) (j := 0) hin (by omega))
                  have HY1 := Lib.hid y1
                  have HB1 := Lib.hid b1
                  have z3 := (HX.out.cell (p := a1.add (i * 5)) (by rw [block_of_add]; exact HB1.out)).trans HY1.out
                  clear y1 b1
                  have x2 : wr.cell? ⟨L, j, none⟩ = some (.slice A2 n c2) := (HX.out.cell (p := ⟨L, j, none⟩) HL.out.lt).trans HLC.out
                  by_cases hin2 : i < n
                  · obtain ⟨a2, rfl, b2, y3⟩ := at_five0 HR2.out hin2 (marks_get (mkJ_len j) (j := 0) hin2 (by omega))
                    have z5 := (HX.out.cell (p := a2.add (i * 5)) (by rw [block_of_add]; exact b2)).trans y3
                    clear y3 b2
                    replace z3 : wr.cell? (a1.add (i * 5)) = some (.int .i64 (mjI j (i : Int))) := z3
                    replace z5 : wr.cell? (a2.add (i * 5)) = some (.int .i64 (mjI j (i : Int))) := z5
                    clear HY1
                    go_upto_region 26 with fail
                    obtain ⟨q1, l1, l2, l3, _⟩ := mj_facts j (i : Int) (by omega) (by omega) (by omega)
                    generalize mjI j (i : Int) = mx at l3 z3 z5
                    go_upto_region 27 with fail
                    clear l1 l2 l3
                    go_wp2_with fail
                    go_roundw
                    case rel => exact ⟨i + 1, by omega, by go_num, HX⟩
                    case measure => simp [intOf]; omega
                  · replace z3 : wr.cell? (a1.add (i * 5)) = some (.int .i64 (mjI j (i : Int))) := z3
                    clear HY1
                    go_upto_region 26 with fail
                    obtain ⟨q1, l1, l2, l3, _⟩ := mj_facts j (i : Int) (by omega) (by omega) (by omega)
                    generalize mjI j (i : Int) = mx at l3 z3
                    go_upto_region 27 with fail
                    clear l1 l2 l3
                    go_wp2_with fail
                    go_roundw
                    case rel => exact ⟨i + 1, by omega, by go_num, HX⟩
                    case measure => simp [intOf]; omega
                · go_wp2
                  go_roundw
                  case rel => exact ⟨j + 1, by omega, by go_num, HX⟩
                  case measure => simp [intOf]; omega
            · go_wp2
              go_ret
              exact ⟨rfl, HW.out.step HX.out HW.out.size⟩
end Js
end Go.Proofs.YtlfeddgpfaigkaaGreatDoor
namespace Go.Proofs.YtlfeddgpfaigkaaGreatDoor
open Go.RowKit
namespace Js
/-- A book's cells: the lists of texts and of values, all else nil. -/
def bkC (vt vj : Value) : Array Value := #[.slice none 0 0, vt, .slice none 0 0, .slice none 0 0, .slice none 0 0, .slice none 0 0, .slice none 0 0, .slice none 0 0, .slice none 0 0, .slice none 0 0, .slice none 0 0, .slice none 0 0, .slice none 0 0, .slice none 0 0, .slice none 0 0, .slice none 0 0, .slice none 0 0, .slice none 0 0, .slice none 0 0, .slice none 0 0, .slice none 0 0, .slice none 0 0, .slice none 0 0, vj]
/-- A book that holds these lists. -/
def Bk (w : World) (K B : Nat) (ts js : List Value) : Prop :=
  ∃ vt vj, Blk w K 67 (bkC vt vj) ∧ w.ownsRow B 23 1 vt ts.length ts ∧ w.ownsRow B 22 1 vj js.length js
/-- Values as they lie, and the lists in them. -/
def TG (w : World) (S : Nat → Prop) : F → List Value → List Value → List Value → Prop
  | .nil, vs, js, ts => vs = [] ∧ js = [] ∧ ts = []
  | .cons h k r, vs, js, ts => ∃ A c A' c' us rest j1 t1 j2 t2, vs = jcells h (.slice A k.len c) (.slice A' h.keys.length c') ++ rest ∧ k.len ≤ 4398046511104 ∧ RdS w S 5 A k.len us ∧ TG w S k us j1 t1 ∧ TG w S r rest j2 t2 ∧
      js = .slice A k.len c :: (j1 ++ j2) ∧ ts = t1 ++ (.slice A' h.keys.length c' :: t2)
theorem TG.kept {w w' : World} {S : Nat → Prop} {f : F} {vs js ts : List Value} (h : TG w S f vs js ts) (hk : ∀ p : Addr, S p.block → w'.cell? p = w.cell? p) : TG w' S f vs js ts := by
  induction f generalizing vs js ts with
  | nil => exact h
  | cons h0 k r ih1 ih2 =>
    obtain ⟨A, c, A', c', us, rest, j1, t1, j2, t2, e, hl, h1, h2, h3, e2, e3⟩ := h
    exact ⟨A, c, A', c', us, rest, j1, t1, j2, t2, e, hl, h1.kept hk, ih1 h2, ih2 h3, e2, e3⟩
theorem own_setCell {w : World} {B size n : Nat} {e : TypeId} {v : Value} {xs : List Value} (h : w.ownsRow B e size v n xs) {p : Addr} (hp : v.ownBlock ≠ some p.block) (u : Value) : (w.setCell p u).ownsRow B e size v n xs :=
  own_at h fun b hb => Below.heap_setCell w p u b (fun e => hp (by rw [hb, e]))
/-- What the book's calls leave alone: all below B, and each block of a value. -/
structure KB (B : Nat) (w w' : World) : Prop where
  below : Below B w w'
  blk : ∀ b cs, Blk w b 25 cs → Blk w' b 25 cs
theorem KB.refl (B : Nat) (w : World) : KB B w w := ⟨Below.refl _ _, fun _ _ h => h⟩
theorem KB.trans {B : Nat} {a b c : World} (h : KB B a b) (k : KB B b c) : KB B a c := ⟨h.below.trans k.below, fun i cs hi => k.blk i cs (h.blk i cs hi)⟩
theorem KB.alloc {B : Nat} {w : World} (hB : B ≤ w.heap.size) (o : Obj) : KB B w (w.alloc o) := ⟨(Below.refl _ _).alloc hB o, fun _ _ h => h.alloc o⟩
theorem KB.grown {B size n : Nat} {e : TypeId} {v : Value} {xs : List Value} {w w' : World} (h : w.ownsRow B e size v n xs) (hg : w.grownBy w' v.ownBlock) (he : e ≠ 25) (hB : B ≤ w.heap.size) : KB B w w' :=
  ⟨(Below.refl B w).grown hg hB fun b hb => (h.lt b hb).1, fun _ _ hb => hb.grown hg fun e => own_blk_ne h hb he e.symm⟩
theorem KB.set {B K i : Nat} {w : World} {cs : Array Value} (h : Blk w K 67 cs) (hK : B ≤ K) (u : Value) : KB B w (w.setCell ⟨K, i, none⟩ u) :=
  ⟨(Below.refl B w).setCell (p := ⟨K, i, none⟩) hK u, fun _ _ hb => hb.far (p := ⟨K, i, none⟩) (Blk.ne_ hb h (by decide)) u⟩
set_option maxHeartbeats 1600000 in
set_option maxRecDepth 100000 in
theorem texts_any (K B : Nat) (ts js : List Value) (A : Option Addr) (n c : Nat) (w : World) (h : Bk w K B ts js) (hB : B ≤ w.heap.size) (hK : B ≤ K) (hn : ts.length ≤ 16777216) :
    Calls Tryz.prog 56 #[.pointer (some ⟨K, 0, none⟩), .slice A n c] w fun x w' => x = .returned (.tuple #[]) ∧ Bk w' K B (ts ++ [.slice A n c]) js ∧ KB B w w' := by
  obtain ⟨vt, vj, hb, ht, hj⟩ := h
  obtain ⟨i1, hi1, hy0, hy1, hy2⟩ := info_parts infoLists
  have HB := Lib.hid hb
  have HT := Lib.hid ht
  have HJ := Lib.hid hj
  have c1 : w.cell? ⟨K, 1, none⟩ = some vt := hb.cell 1
  obtain ⟨m, hm⟩ : ∃ m, m = ts.length := ⟨_, rfl⟩
  rw [← hm] at HT hn
  have HM := Lib.hid hm
  clear hb ht hj hm
  go_enter Tryz.func56, Tryz.ntmps56
  go_wp2_with (at_builtin; refine wpList_append_keep _ rfl _ _ 43 rfl B 23 i1 (.slice none 0 0) 1 24 Tryz.underlying43 hi1 hy0 hy1 hy2 rfl (by decide) _ _ _ rfl (HT.out.alloc _) ⟨w.heap.size, 0, none⟩ 1 1 [.slice A n c] rfl rfl (cell_one_new _ _ _) (by intro x hx; simp at hx; subst hx; rfl) (by unfold maxLen; omega) (by omega) (by simp; omega) (by omega) ?_; intro v1 w2 ho1 hg1 hk1 hl1; obtain ⟨A9, c9, hv9, _⟩ := own_readsN ho1; subst hv9; have HB2 := Lib.hid ((HB.out.alloc (.cells #[.slice A n c] 23)).grown hg1 (fun e => own_blk_ne (HT.out.alloc (.cells #[.slice A n c] 23)) (HB.out.alloc _) (by decide) e.symm)); have f1 := HB2.out.frozen 1; have d1 : w2.cell? ⟨K, 1, none⟩ = some vt := HB2.out.cell 1)
  go_end0
  have hHT := HT.out.alloc (.cells #[.slice A n c] 23)
  refine ⟨rfl, ⟨(.slice A9 (m + 1) c9), vj, HB2.out.set_ 1 (.slice A9 (m + 1) c9), ?_, ?_⟩, ?_⟩
  · rw [List.length_append, List.length_singleton, ← HM.out]
    exact own_setCell ho1 (p := ⟨K, 1, none⟩) (own_blk_ne ho1 HB2.out (by decide)) _
  · have hj1 := (HJ.out.alloc (.cells #[.slice A n c] 23))
    have hj2 := hj1.kept hg1 (YtlfeddgpfaigkaaGreatDoor.own_own_ne hj1 hHT (by decide))
    exact own_setCell hj2 (p := ⟨K, 1, none⟩) (own_blk_ne hj2 HB2.out (by decide)) _
  · exact ((KB.alloc hB (.cells #[.slice A n c] 23)).trans (KB.grown hHT hg1 (by decide) (by simp; omega))).trans (KB.set HB2.out hK _)
def BJsonC (K B n : Nat) : Prop := ∀ (h : Hd) (k : F) (A A' : Option Addr) (c c' : Nat) (us j1 t1 ts js : List Value) (S : Nat → Prop) (w : World), k.sz ≤ n → k.len ≤ 4398046511104 → RdS w S 5 A k.len us → TG w S k us j1 t1 → (∀ b, S b → b < B) → Bk w K B ts js → B ≤ w.heap.size →
  js.length + j1.length + 1 ≤ 16777216 → ts.length + t1.length + 1 ≤ 16777216 →
  Calls Tryz.prog 20 #[.pointer (some ⟨K, 0, none⟩), .agg #[.int .i64 h.kind, .int .i64 h.num, .string ⟨h.text.toArray⟩, .slice A k.len c, .slice A' h.keys.length c']] w fun x w' => x = .returned (.tuple #[]) ∧ Bk w' K B (ts ++ (t1 ++ [.slice A' h.keys.length c'])) (js ++ .slice A k.len c :: j1) ∧ KB B w w'
def BJsonsC (K B n : Nat) : Prop := ∀ (f : F) (A : Option Addr) (c : Nat) (us jr tr ts js : List Value) (S : Nat → Prop) (w : World), f.sz ≤ n → f.len ≤ 4398046511104 → RdS w S 5 A f.len us → TG w S f us jr tr → (∀ b, S b → b < B) → Bk w K B ts js → B ≤ w.heap.size →
  js.length + jr.length + 1 ≤ 16777216 → ts.length + tr.length ≤ 16777216 →
  Calls Tryz.prog 55 #[.pointer (some ⟨K, 0, none⟩), .slice A f.len c] w fun x w' => x = .returned (.tuple #[]) ∧ Bk w' K B (ts ++ tr) (js ++ .slice A f.len c :: jr) ∧ KB B w w'
set_option maxHeartbeats 3200000 in
set_option maxRecDepth 100000 in
theorem bjsons_step (K B n : Nat) (hK : B ≤ K) (hC : ∀ m, m < n → BJsonC K B m) : BJsonsC K B n := by
  intro f A c us jr tr ts js S w hk hlen hr htg hS hbk hB hnj hnt
  obtain ⟨vt, vj, hb, ht, hj⟩ := hbk
  obtain ⟨i1, hi1, hy0, hy1, hy2⟩ := info_parts infoListsJ
  have HC := Lib.hid hC
  have HK := Lib.hid hk
  have HS := Lib.hid hS
  have HB := Lib.hid hb
  have HT := Lib.hid ht
  have HJ := Lib.hid hj
  have HR := Lib.hid (hr.reads hS)
  have HTG := Lib.hid htg
  have HNT := Lib.hid hnt
  have c1 : w.cell? ⟨K, 23, none⟩ = some vj := hb.cell 23
  obtain ⟨m, hm⟩ : ∃ m, m = js.length := ⟨_, rfl⟩
  have HNJ := Lib.hid hnj
  rw [← hm] at HJ hnj
  have HM := Lib.hid hm
  obtain ⟨L, hL⟩ : ∃ L, L = f.len := ⟨_, rfl⟩
  have HL := Lib.hid hL
  rw [← hL] at HR hlen ⊢
  clear hb ht hj hm hk hC hS hr htg hnt hL
  go_enter Tryz.func55, Tryz.ntmps55
  go_wp2_with (at_builtin; refine wpList_append_keep _ rfl _ _ 65 rfl B 22 i1 (.slice none 0 0) 1 24 Tryz.underlying65 hi1 hy0 hy1 hy2 rfl (by decide) _ _ _ rfl (HJ.out.alloc _) ⟨w.heap.size, 0, none⟩ 1 1 [.slice A L c] rfl rfl (cell_one_new _ _ _) (by intro x hx; simp at hx; subst hx; rfl) (by unfold maxLen; omega) (by omega) (by simp; omega) (by omega) ?_; intro v1 w2 ho1 hg1 hk1 hl1; obtain ⟨A9, c9, hv9, _⟩ := own_readsN ho1; subst hv9; have HB2 := Lib.hid ((HB.out.alloc (.cells #[.slice A L c] 22)).grown hg1 (fun e => own_blk_ne (HJ.out.alloc (.cells #[.slice A L c] 22)) (HB.out.alloc _) (by decide) e.symm)); have f1 := HB2.out.frozen 23; have d1 : w2.cell? ⟨K, 23, none⟩ = some vj := HB2.out.cell 23)
  have hHJ := HJ.out.alloc (.cells #[.slice A L c] 22)
  have hB2 : KB B w (w2.setCell ⟨K, 23, none⟩ (.slice A9 (m + 1) c9)) := ((KB.alloc hB (.cells #[.slice A L c] 22)).trans (KB.grown hHJ hg1 (by decide) (by simp; omega))).trans (KB.set HB2.out hK _)
  have hbk2 : Bk (w2.setCell ⟨K, 23, none⟩ (.slice A9 (m + 1) c9)) K B ts (js ++ [.slice A L c]) := by
    refine ⟨vt, (.slice A9 (m + 1) c9), HB2.out.set_ 23 (.slice A9 (m + 1) c9), ?_, ?_⟩
    · have hj1 := (HT.out.alloc (.cells #[.slice A L c] 22))
      have hj2 := hj1.kept hg1 (YtlfeddgpfaigkaaGreatDoor.own_own_ne hj1 hHJ (by decide))
      exact own_setCell hj2 (p := ⟨K, 23, none⟩) (own_blk_ne hj2 HB2.out (by decide)) _
    · rw [List.length_append, List.length_singleton, ← HM.out]
      exact own_setCell ho1 (p := ⟨K, 23, none⟩) (own_blk_ne ho1 HB2.out (by decide)) _
  have HB3 := Lib.hid hB2
  have HBK := Lib.hid hbk2
  clear hHJ hB2 hbk2 ho1 hg1 hk1 hl1 HB2 f1 d1 c1
  go_loopw [4] (fun i wr => ∃ (j : Nat) (r : F) (j2 t2 js2 ts2 : List Value), j + r.len = L ∧ i = .int .i64 j ∧ Hid (Bk wr K B ts2 js2) ∧ Hid (KB B w wr) ∧ Hid (TG w S r (us.drop (j * 5)) j2 t2) ∧ Hid (r.sz ≤ f.sz) ∧ Hid (ts2 ++ t2 = ts ++ tr ∧ js2 ++ j2 = js ++ .slice A L c :: jr)) (fun i _ => L - (intOf i).toNat)
  case atStart => exact ⟨0, f, jr, tr, _, _, by rw [HL.out]; omega, rfl, HBK, HB3, Lib.hid (by simpa using HTG.out), Lib.hid (Nat.le_refl _), Lib.hid ⟨rfl, by simp⟩⟩
  case round =>
    obtain ⟨j, r, j2, t2, js2, ts2, hj, rfl, HBK2, HW, HT2, HSZ, HE⟩ := hrel
    cases r with
    | nil =>
      obtain ⟨_, rfl, rfl⟩ := HT2.out
      obtain rfl : j = L := by simpa [F.len] using hj
      go_wp2_with fail
      go_end0
      refine ⟨rfl, ?_, HW.out⟩
      have h1 := HE.out.1
      have h2 := HE.out.2
      rw [List.append_nil] at h1 h2
      rw [← h1, ← h2]
      exact HBK2.out
    | cons h0 k0 r0 =>
      obtain ⟨A1, c1, A2, c2, us1, rest, j3, t3, j4, t4, hcs, hkl, hr1, htg1, htg2, rfl, rfl⟩ := HT2.out
      obtain ⟨ad, rfl, hab, hcl⟩ := HR.out.2 (by simp only [F.len] at hj; omega)
      obtain ⟨x0, x1, x2, x3, x4⟩ := cells5 (k := j) (fun q u hu => (HW.out.below.cell (show (ad.add q).block < B by rw [block_of_add]; exact hab)).trans (hcl q u hu)) (show (us.drop (j * 5)).take 5 = [.int .i64 h0.kind, .int .i64 h0.num, .string ⟨h0.text.toArray⟩, .slice A1 k0.len c1, .slice A2 h0.keys.length c2] by rw [hcs]; rfl)
      have HCALL : Hid (Calls Tryz.prog 20 #[.pointer (some ⟨K, 0, none⟩), .agg #[.int .i64 h0.kind, .int .i64 h0.num, .string ⟨h0.text.toArray⟩, .slice A1 k0.len c1, .slice A2 h0.keys.length c2]] wr fun x w' => x = .returned (.tuple #[]) ∧ Bk w' K B (ts2 ++ (t3 ++ [.slice A2 h0.keys.length c2])) (js2 ++ .slice A1 k0.len c1 :: j3) ∧ KB B wr w') := Lib.hid (by
        have hs := HSZ.out
        have hk0 := HK.out
        have e1 := congrArg List.length HE.out.1
        have e2 := congrArg List.length HE.out.2
        have n1 := HNT.out
        have n2 := HNJ.out
        simp only [List.length_append, List.length_cons] at e1 e2
        simp only [F.sz] at hs
        refine HC.out k0.sz (by omega) h0 k0 A1 A2 c1 c2 us1 j3 t3 ts2 js2 S wr (Nat.le_refl _) hkl (hr1.kept fun p hp => HW.out.below.cell (HS.out _ hp)) (htg1.kept fun p hp => HW.out.below.cell (HS.out _ hp)) HS.out HBK2.out (Nat.le_trans hB HW.out.below.size) (by omega) (by omega))
      have HTG2 : Hid (TG w S r0 (us.drop ((j + 1) * 5)) j4 t4) := Lib.hid (by
        have e : us.drop ((j + 1) * 5) = rest := by
          rw [Nat.succ_mul, ← List.drop_drop, hcs]; rfl
        rw [e]; exact htg2)
      have HSZ2 : Hid (r0.sz ≤ f.sz) := Lib.hid (by have hs := HSZ.out; simp only [F.sz] at hs; omega)
      have HE2 : Hid ((ts2 ++ (t3 ++ [.slice A2 h0.keys.length c2])) ++ t4 = ts ++ tr ∧ (js2 ++ .slice A1 k0.len c1 :: j3) ++ j4 = js ++ .slice (some ad) L c :: jr) := Lib.hid ⟨by have := HE.out.1; rw [← this]; simp, by have := HE.out.2; rw [← this]; simp⟩
      have hlt : j < L := by simp only [F.len] at hj; omega
      have hj2 : j + 1 + r0.len = L := by simp only [F.len] at hj; omega
      clear hcs hkl hr1 htg1 htg2 hab hcl HT2 hj
      generalize ts2 ++ (t3 ++ [.slice A2 h0.keys.length c2]) = tsn at HCALL HE2
      generalize js2 ++ .slice A1 k0.len c1 :: j3 = jsn at HCALL HE2
      go_wp2_with fail
      refine HCALL.out.mono ?_
      rintro x w4 ⟨rfl, hbk4, hb4⟩
      have HBK4 := Lib.hid hbk4
      have HW4 : Hid (KB B w w4) := Lib.hid (HW.out.trans hb4)
      clear hbk4 hb4 x0 x1 x2 x3 x4 HCALL
      go_wp2_with fail
      go_roundw
      case rel => exact ⟨j + 1, r0, j4, t4, _, _, hj2, by go_num, HBK4, HW4, HTG2, HSZ2, HE2⟩
      case measure => simp [intOf]; omega
set_option maxHeartbeats 3200000 in
set_option maxRecDepth 100000 in
theorem bjson_step (K B n : Nat) (hK : B ≤ K) (hJ : BJsonsC K B n) : BJsonC K B n := by
  intro h k A A' c c' us j1 t1 ts js S w hk hlen hr htg hS hbk hB hnj hnt
  obtain ⟨L, hL⟩ : ∃ L, L = k.len := ⟨_, rfl⟩
  obtain ⟨nk, hnk⟩ : ∃ nk, nk = h.keys.length := ⟨_, rfl⟩
  obtain ⟨b0, hb0⟩ : ∃ b0, b0 = w.heap.size := ⟨_, rfl⟩
  obtain ⟨wz, hwz⟩ : ∃ wz, wz = w.alloc (.cells #[.int .i64 h.kind, .int .i64 h.num, .string ⟨h.text.toArray⟩, .slice A L c, .slice A' nk c'] 25) := ⟨_, rfl⟩
  have HBA : Hid (Blk wz b0 25 #[.int .i64 h.kind, .int .i64 h.num, .string ⟨h.text.toArray⟩, .slice A L c, .slice A' nk c']) := Lib.hid (by rw [hwz, hb0]; exact Blk.new _ _ _)
  have HZ : Hid (KB B w wz) := Lib.hid (by rw [hwz]; exact KB.alloc hB _)
  have HBK : Hid (Bk wz K B ts js) := Lib.hid (by
    obtain ⟨vt, vj, h1, h2, h3⟩ := hbk
    rw [hwz]
    exact ⟨vt, vj, h1.alloc _, h2.alloc _, h3.alloc _⟩)
  have HJ : Hid (Calls Tryz.prog 55 #[.pointer (some ⟨K, 0, none⟩), .slice A L c] wz fun x w' => x = .returned (.tuple #[]) ∧ Bk w' K B (ts ++ t1) (js ++ .slice A L c :: j1) ∧ KB B wz w') := Lib.hid (by
    rw [hL]
    exact hJ k A c us j1 t1 ts js S wz hk hlen (hr.kept fun p hp => HZ.out.below.cell (hS _ hp)) (htg.kept fun p hp => HZ.out.below.cell (hS _ hp)) hS HBK.out (Nat.le_trans hB HZ.out.below.size) (by omega) (by omega))
  have HBZ : Hid (B ≤ wz.heap.size) := Lib.hid (Nat.le_trans hB HZ.out.below.size)
  have HNT : Hid ((ts ++ t1).length ≤ 16777216) := Lib.hid (by rw [List.length_append]; omega)
  have HXA : Hid (b0 ≠ K ∧ B ≤ b0) := Lib.hid (by
    obtain ⟨vt, vj, h1, _⟩ := hbk
    have := h1.lt
    omega)
  rw [← hL, ← hnk]
  clear hr htg hbk hL hnk hk hlen hJ hS
  have a3 := HBA.out.cell 3
  go_enter Tryz.func20, Tryz.ntmps20
  go_upto_region 1 with fail
  rw [← hwz, ← hb0]
  clear hwz hb0
  go_wp2_with fail
  refine HJ.out.mono ?_
  rintro x w1 ⟨rfl, hb1, hw1⟩
  have HBK1 := Lib.hid hb1
  have HW1 : Hid (KB B w w1) := Lib.hid (HZ.out.trans hw1)
  have a4 : w1.cell? ⟨b0, 4, none⟩ = some (.slice A' nk c') := (hw1.blk _ _ HBA.out).cell 4
  have HT := Lib.hid (texts_any K B (ts ++ t1) (js ++ .slice A L c :: j1) A' nk c' w1 hb1 (Nat.le_trans hB HW1.out.below.size) hK HNT.out)
  clear hb1 hw1 HJ a3
  go_wp2_with fail
  refine HT.out.mono ?_
  rintro x w2 ⟨rfl, hb2, hw2⟩
  have HW2 : Hid (KB B w w2) := Lib.hid (HW1.out.trans hw2)
  have HBK2 := Lib.hid hb2
  clear hb2 hw2 HT a4
  go_wp2
  go_end0
  exact ⟨rfl, by rw [← List.append_assoc]; exact HBK2.out, HW2.out⟩
theorem bjson_any (K B n : Nat) (hK : B ≤ K) : BJsonC K B n := by
  induction n using Nat.strongRecOn with
  | ind n ih => exact bjson_step K B n hK (bjsons_step K B n hK ih)
end Js
end Go.Proofs.YtlfeddgpfaigkaaGreatDoor
namespace Go.Proofs.YtlfeddgpfaigkaaGreatDoor
open Go.RowKit
namespace Js
theorem own_row {w : World} {B n : Nat} {e : TypeId} {v : Value} {xs : List Value} (h : w.ownsRow B e 1 v n xs) (hn : 0 < n) : ∃ g cap cur, v = .slice (some ⟨g, 0, none⟩) n cap ∧ Blk w g e cur ∧ ∀ k, k < n → cur[k]? = some (xs.getD k undef) := by
  have h0 := h
  rcases h.2 with ⟨_, rfl⟩ | ⟨g, cap, cur, rfl, _, hg, _⟩
  · omega
  · refine ⟨g, cap, cur, rfl, hg, fun k hk => ?_⟩
    have e1 := h0.cellAt k (by omega)
    have e2 := Blk.cell (t := e) (cs := cur) hg k
    have hl := h0.1
    rw [← e2, e1, List.getD, List.getElem?_eq_getElem (by omega)]
    rfl
theorem rws_kept {w w' : World} {B0 size m m' B1 size' : Nat} {e e' : TypeId} {V V' : Nat → Value} {N N' : Nat → Nat} {X X' : Nat → List Value} (h : Rws w B0 e size m V N X) (h' : Rws w B1 e' size' m' V' N' X') (hne : e ≠ e') (hk : Kp w.heap.size (Ow m' V') w w') : Rws w' B0 e size m V N X :=
  ⟨fun k hkm => own_at (h.own k hkm) fun b hb => hk.block b ((h.own k hkm).lt b hb).2 (fun ⟨j, hj, hbj⟩ => by
    rcases YtlfeddgpfaigkaaGreatDoor.own_own_ne (h.own k hkm) (h'.own j hj) hne with e | e
    · rw [e] at hb; cases hb
    · exact e (hb.trans hbj.symm)), h.apart⟩
theorem ow_blk {w : World} {B0 size m g : Nat} {e t : TypeId} {cs : Array Value} {V : Nat → Value} {N : Nat → Nat} {X : Nat → List Value} (h : Rws w B0 e size m V N X) (hb : Blk w g t cs) (hne : e ≠ t) : ¬ Ow m V g :=
  fun ⟨j, hj, hbj⟩ => own_blk_ne (h.own j hj) hb hne hbj
theorem kp_below {w w' : World} {B0 size m : Nat} {e : TypeId} {V : Nat → Value} {N : Nat → Nat} {X : Nat → List Value} (h : Rws w B0 e size m V N X) (hB : B0 ≤ w.heap.size) (hk : Kp w.heap.size (Ow m V) w w') : Below B0 w w' :=
  ⟨hk.os, hk.tape, hk.output, hk.size, fun b hb => hk.block b (by omega) (fun ⟨j, hj, hbj⟩ => by have := ((h.own j hj).lt b hbj).1; omega)⟩
set_option maxHeartbeats 3200000 in
set_option maxRecDepth 100000 in
theorem apart_any (K B B0 : Nat) (ts js : List Value) (Nt Nj : Nat → Nat) (Xt Xj : Nat → List Value) (w : World) (hbk : Bk w K B ts js) (ht0 : 0 < ts.length) (hj0 : 0 < js.length) (hlt : ts.length ≤ 16777216) (hlj : js.length ≤ 16777216)
    (hRt : Rws w B0 9 1 ts.length (fun k => ts.getD k undef) Nt Xt) (hRj : Rws w B0 25 5 js.length (fun k => js.getD k undef) Nj Xj) (hB0 : B0 ≤ w.heap.size) (hNt : ∀ k, k < ts.length → Nt k ≤ 10000000) (hNj : ∀ k, k < js.length → Nj k ≤ 10000000) :
    Calls Tryz.prog 21 #[.pointer (some ⟨K, 0, none⟩)] w fun x w' => x = .returned (.bool true) ∧ Below B0 w w' := by
  obtain ⟨vt, vj, hb, h1, h2⟩ := hbk
  obtain ⟨gt, ct, curt, rfl, hbt, hct⟩ := own_row h1 ht0
  obtain ⟨gj, cj, curj, rfl, hbj, hcj⟩ := own_row h2 hj0
  have HCT : Hid (Calls Tryz.prog 58 #[.slice (some ⟨gt, 0, none⟩) ts.length ct] w fun e w' => e = .returned (.bool true) ∧ Kp w.heap.size (Ow ts.length fun k => ts.getD k undef) w w') := Lib.hid (
    apartTextsK w B0 gt ts.length ct curt (fun k => ts.getD k undef) Nt Xt hbt hct hRt hB0 hlt hNt)
  have HJ : Hid (∀ w1, Kp w.heap.size (Ow ts.length fun k => ts.getD k undef) w w1 → Calls Tryz.prog 80 #[.slice (some ⟨gj, 0, none⟩) js.length cj] w1 fun e w' => e = .returned (.bool true) ∧ Below B0 w w') := Lib.hid (fun w1 hk => by
    have hR := rws_kept hRj hRt (by decide) hk
    have hB1 := Nat.le_trans hB0 hk.size
    refine (apartJsonsK w1 B0 gj js.length cj curj (fun k => js.getD k undef) Nj Xj (hk.blk hbj hbj.lt (ow_blk hRt hbj (by decide))) hcj hR hB1 hlj hNj).mono ?_
    rintro x w' ⟨rfl, hk2⟩
    exact ⟨rfl, (kp_below hRt hB0 hk).trans (kp_below hR hB1 hk2)⟩)
  obtain ⟨nt, hnt⟩ : ∃ nt, nt = ts.length := ⟨_, rfl⟩
  obtain ⟨nj, hnj⟩ : ∃ nj, nj = js.length := ⟨_, rfl⟩
  rw [← hnt] at HCT HJ hb
  rw [← hnj] at HJ hb
  obtain ⟨O, hO⟩ : ∃ O, O = Ow nt fun k => ts.getD k undef := ⟨_, rfl⟩
  rw [← hO] at HCT HJ
  have HQ : Hid (∀ wy, Kp w.heap.size O w wy → wy.cell? ⟨K, 2, none⟩ = some (.slice none 0 0) ∧ wy.cell? ⟨K, 3, none⟩ = some (.slice none 0 0) ∧ wy.cell? ⟨K, 4, none⟩ = some (.slice none 0 0) ∧ wy.cell? ⟨K, 5, none⟩ = some (.slice none 0 0) ∧ wy.cell? ⟨K, 6, none⟩ = some (.slice none 0 0) ∧ wy.cell? ⟨K, 7, none⟩ = some (.slice none 0 0) ∧ wy.cell? ⟨K, 8, none⟩ = some (.slice none 0 0) ∧ wy.cell? ⟨K, 9, none⟩ = some (.slice none 0 0) ∧ wy.cell? ⟨K, 10, none⟩ = some (.slice none 0 0) ∧ wy.cell? ⟨K, 11, none⟩ = some (.slice none 0 0) ∧ wy.cell? ⟨K, 12, none⟩ = some (.slice none 0 0) ∧ wy.cell? ⟨K, 13, none⟩ = some (.slice none 0 0) ∧ wy.cell? ⟨K, 14, none⟩ = some (.slice none 0 0) ∧ wy.cell? ⟨K, 15, none⟩ = some (.slice none 0 0) ∧ wy.cell? ⟨K, 16, none⟩ = some (.slice none 0 0) ∧ wy.cell? ⟨K, 17, none⟩ = some (.slice none 0 0) ∧ wy.cell? ⟨K, 18, none⟩ = some (.slice none 0 0) ∧ wy.cell? ⟨K, 19, none⟩ = some (.slice none 0 0) ∧ wy.cell? ⟨K, 20, none⟩ = some (.slice none 0 0) ∧ wy.cell? ⟨K, 21, none⟩ = some (.slice none 0 0) ∧ wy.cell? ⟨K, 22, none⟩ = some (.slice none 0 0) ∧ wy.cell? ⟨K, 23, none⟩ = some (.slice (some ⟨gj, 0, none⟩) nj cj)) := Lib.hid (fun wy hk => by
    rw [hO, hnt] at hk
    have hb := hk.blk hb hb.lt (ow_blk hRt hb (by decide))
    exact ⟨hb.cell 2, hb.cell 3, hb.cell 4, hb.cell 5, hb.cell 6, hb.cell 7, hb.cell 8, hb.cell 9, hb.cell 10, hb.cell 11, hb.cell 12, hb.cell 13, hb.cell 14, hb.cell 15, hb.cell 16, hb.cell 17, hb.cell 18, hb.cell 19, hb.cell 20, hb.cell 21, hb.cell 22, hb.cell 23⟩)
  have p0 : w.cell? ⟨K, 0, none⟩ = some (.slice none 0 0) := hb.cell 0
  have p1 : w.cell? ⟨K, 1, none⟩ = some (.slice (some ⟨gt, 0, none⟩) nt ct) := hb.cell 1
  clear hb h1 h2 hbt hct hbj hcj hRt hRj hNt hNj hlt hlj ht0 hj0 hB0 hnt hnj hO
  go_enter Tryz.func21, Tryz.ntmps21
  go_wp2_with fail
  refine (apartBytes_nil _).mono ?_
  rintro x wx ⟨rfl, rfl⟩
  go_wp2_with fail
  refine HCT.out.mono ?_
  rintro x w1 ⟨rfl, hk1⟩
  obtain ⟨q2, q3, q4, q5, q6, q7, q8, q9, q10, q11, q12, q13, q14, q15, q16, q17, q18, q19, q20, q21, q22, q23⟩ := HQ.out w1 hk1
  have HK1 := Lib.hid hk1
  have HCJ := Lib.hid (HJ.out w1 hk1)
  clear p0 p1 hk1 HCT
  go_wp2_with fail
  refine (apartInts_nil _).mono ?_
  rintro x wx ⟨rfl, rfl⟩
  go_wp2_with fail
  refine (apartEntries_nil _).mono ?_
  rintro x wx ⟨rfl, rfl⟩
  go_wp2_with fail
  refine (apartChanges_nil _).mono ?_
  rintro x wx ⟨rfl, rfl⟩
  go_wp2_with fail
  refine (apartMembers_nil _).mono ?_
  rintro x wx ⟨rfl, rfl⟩
  go_wp2_with fail
  refine (apartPairs_nil _).mono ?_
  rintro x wx ⟨rfl, rfl⟩
  go_wp2_with fail
  refine (apartDigests_nil _).mono ?_
  rintro x wx ⟨rfl, rfl⟩
  go_wp2_with fail
  refine (apartPasts_nil _).mono ?_
  rintro x wx ⟨rfl, rfl⟩
  go_wp2_with fail
  refine (apartWords_nil _).mono ?_
  rintro x wx ⟨rfl, rfl⟩
  go_wp2_with fail
  refine (apartMarks_nil _).mono ?_
  rintro x wx ⟨rfl, rfl⟩
  go_wp2_with fail
  refine (apartDocs_nil _).mono ?_
  rintro x wx ⟨rfl, rfl⟩
  go_wp2_with fail
  refine (apartRefs_nil _).mono ?_
  rintro x wx ⟨rfl, rfl⟩
  go_wp2_with fail
  refine (apartPieces_nil _).mono ?_
  rintro x wx ⟨rfl, rfl⟩
  go_wp2_with fail
  refine (apartKeeps_nil _).mono ?_
  rintro x wx ⟨rfl, rfl⟩
  go_wp2_with fail
  refine (apartDids_nil _).mono ?_
  rintro x wx ⟨rfl, rfl⟩
  go_wp2_with fail
  refine (apartLosts_nil _).mono ?_
  rintro x wx ⟨rfl, rfl⟩
  go_wp2_with fail
  refine (apartSteps_nil _).mono ?_
  rintro x wx ⟨rfl, rfl⟩
  go_wp2_with fail
  refine (apartStages_nil _).mono ?_
  rintro x wx ⟨rfl, rfl⟩
  go_wp2_with fail
  refine (apartItems_nil _).mono ?_
  rintro x wx ⟨rfl, rfl⟩
  go_wp2_with fail
  refine (apartLines_nil _).mono ?_
  rintro x wx ⟨rfl, rfl⟩
  go_wp2_with fail
  refine (apartNodes_nil _).mono ?_
  rintro x wx ⟨rfl, rfl⟩
  go_wp2_with fail
  refine (apartLevels_nil _).mono ?_
  rintro x wx ⟨rfl, rfl⟩
  go_wp2_with fail
  refine HCJ.out.mono ?_
  rintro x w2 ⟨rfl, hb2⟩
  have HB2 := Lib.hid hb2
  clear hb2 HCJ
  go_wp2
  go_ret
  exact ⟨rfl, HB2.out⟩
end Js
end Go.Proofs.YtlfeddgpfaigkaaGreatDoor
