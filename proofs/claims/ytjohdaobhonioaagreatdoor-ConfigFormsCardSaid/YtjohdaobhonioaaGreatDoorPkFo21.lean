/-
  Parts of the proof: JsCl.
-/
import Derived.Test.YtjohdaobhonioaaGreatDoorPkFo10
import Derived.Test.YtjohdaobhonioaaGreatDoorPkFo6
import Derived.Test.YtjohdaobhonioaaGreatDoorPkFo8
import Derived.Deep.RegionHeld3
namespace Go.Proofs.YtjohdaobhonioaaGreatDoor
open Go.RowKit
namespace Js
def F.deep : F -> Nat
 | .nil => 0
 | .cons _ k r => max (k.deep + 1) r.deep
theorem deep_at {f : F} {i : Nat} {h : Hd} {k : F} (e : (toL f)[i]? = some (h, k)) : k.deep + 1 ≤ f.deep := by
 induction f generalizing i with
 | nil => simp [toL] at e
 | cons h1 k1 r _ ih =>
  cases i with
  | zero => simp [toL] at e; obtain ⟨rfl, rfl⟩ := e; simp only [F.deep]; omega
  | succ i => have := ih (i := i) (by simpa [toL] using e); simp only [F.deep]; omega
theorem ol_value {w : World} {B B0 B1 : Nat} {v kv : Value} {h : Hd} {k : F} {bs : List Nat} (h1 : OL encJ w B 54 9 v k bs) (hl : k.len ≤ 4398046511104) (hkl : h.keys.length ≤ 4398046511104) (hk : w.ownsRow B1 9 1 kv h.keys.length (tx h.keys)) (hB : B0 ≤ B) (hB1 : B0 ≤ B1) (hlt : ∀ b ∈ ob kv, b < B) :
   OT encJ w B0 54 9 (.cons h k .nil) (jcells h v kv) (ob v ++ (bs ++ ob kv)) /\ (ob v ++ (bs ++ ob kv)).Nodup := by
 obtain ⟨vs, ho, ht, hn⟩ := h1
 have hge : ∀ b ∈ ob v ++ bs, B ≤ b := fun b hb => by
   rcases List.mem_append.1 hb with h | h
   . exact (ob_lt ho h).1
   . exact (ht.lt b h).1
 refine ⟨⟨v, kv, vs, [], bs, [], by simp [encJ], hl, hkl, own_less ho hB, ht.less hB, own_less hk hB1, ⟨rfl, rfl⟩, by simp⟩, ?_⟩
 rw [<- List.append_assoc, List.nodup_append]
 refine ⟨hn, ?_, fun a ha b hb e => ?_⟩
 . unfold ob; cases kv.ownBlock <;> simp
 . subst e
   have := hge a ha
   have := hlt a hb
   omega
def CloneC (n : Nat) : Prop := ∀ (h : Hd) (k : F) (iv kv : Value) (S : Nat -> Prop) (lv : Nat) (w : World), k.sz ≤ n -> k.deep ≤ lv -> lv ≤ 65535 -> TV encJ w S h k (jcells h iv kv) -> (∀ b, S b -> b < w.heap.size) ->
 Calls Tryz.prog 213 #[.agg #[.int .i64 h.kind, .int .i64 h.num, .string ⟨h.text.toArray⟩, iv, kv], .int .i64 lv] w (VPost h k w)
-- <
set_option maxHeartbeats 1600000 in
set_option maxRecDepth 100000 in
theorem clone_step (n : Nat) (hn : n ≤ 1099511627776) (hC : ∀ m, m < n -> CloneC m) : CloneC n := by
 intro h k iv kv S lv w hk hd hlv htv hS
 obtain ⟨A1, c1, A2, c2, us, ecs, hlk, ⟨hlq, _⟩, hr1, htr, hr2⟩ := htv
 have eiv : iv = .slice A1 k.len c1 /\ kv = .slice A2 h.keys.length c2 := by
  simp only [encJ, jcells, List.cons.injEq, and_true, true_and] at ecs
  exact ecs
 obtain ⟨rfl, rfl⟩ := eiv
 obtain ⟨i0, hi, hz0, hz1, hz2⟩ := info_parts infoStr
 obtain ⟨j0, hjI, hy0, hy1, hy2⟩ := info_parts infoJson
 obtain ⟨b0, hb0⟩ : ∃ b0, b0 = w.heap.size := ⟨_, rfl⟩
 obtain ⟨wz, hwz⟩ : ∃ wz, wz = (w.alloc (.cells #[.int .i64 h.kind, .int .i64 h.num, .string ⟨h.text.toArray⟩, .slice A1 k.len c1, .slice A2 h.keys.length c2] 54)).alloc (.cells #[.int .i64 0, .int .i64 0, .string ⟨#[]⟩, .slice none 0 0, .slice none 0 0] 54) := ⟨_, rfl⟩
 have HB0 : Hid (Blk wz b0 54 #[.int .i64 h.kind, .int .i64 h.num, .string ⟨h.text.toArray⟩, .slice A1 k.len c1, .slice A2 h.keys.length c2]) := Lib.hid (by rw [hwz, hb0]; exact Blk.alloc (Blk.new _ _ _) _)
 have HR0 : Hid (Blk wz (b0 + 1) 54 #[.int .i64 0, .int .i64 0, .string ⟨#[]⟩, .slice none 0 0, .slice none 0 0]) := Lib.hid (by
  have := Blk.new (w.alloc (.cells #[.int .i64 h.kind, .int .i64 h.num, .string ⟨h.text.toArray⟩, .slice A1 k.len c1, .slice A2 h.keys.length c2] 54)) 54 #[.int .i64 0, .int .i64 0, .string ⟨#[]⟩, .slice none 0 0, .slice none 0 0]
  rw [hwz, hb0]; simpa using this)
 have HZ : Hid (Below w.heap.size w wz /\ wz.heap.size = b0 + 2) := Lib.hid (by rw [hwz, hb0]; exact ⟨((Below.refl _ _).alloc (Nat.le_refl _) _).alloc (by simp) _, by simp⟩)
 have HC := Lib.hid hC
 have HK := Lib.hid hk
 have HD := Lib.hid hd
 have HS := Lib.hid hS
 have HTR := Lib.hid htr
 have HR1 := Lib.hid (hr1.reads hS)
 have HR2 := Lib.hid (hr2.reads hS)
 have HLQ := Lib.hid hlq
 have HLN : Hid (k.len ≤ 1099511627776) := Lib.hid (Nat.le_trans k.len_sz (Nat.le_trans hk hn))
 have HB0W : Hid (b0 = w.heap.size) := Lib.hid hb0
 obtain ⟨L, hL⟩ : ∃ L, L = k.len := ⟨_, rfl⟩
 obtain ⟨nk, hnk⟩ : ∃ nk, nk = h.keys.length := ⟨_, rfl⟩
 have HL := Lib.hid hL
 have HNK := Lib.hid hnk
 rw [<- hL] at HR1 HLN HB0 hwz ⊢
 rw [<- hnk] at HR2 HLQ HB0 hwz ⊢
 clear hC hk hd hS htr hr1 hr2 hlq hlk ecs hL hnk
 go_enter Tryz.func213, Tryz.ntmps213
 go_upto_region 1 with fail
 rw [<- hwz, <- hb0]
 clear hwz hb0
 have HRK := Lib.hid ((HR2.out.below HZ.out.1).more (Nat.le_trans (Nat.le_of_eq HB0W.out.symm) (by have := HZ.out.2; omega) : w.heap.size ≤ wz.heap.size))
 go_cut [5] (fun s5 wx => ∃ (b5 : Nat) (A3 : Option Addr) (c3 : Nat), s5 = .pointer (some ⟨b5, 0, none⟩) /\ Hid (Blk wx b5 54 #[.int .i64 h.kind, .int .i64 h.num, .string ⟨h.text.toArray⟩, .slice none 0 0, .slice A3 nk c3]) /\ Hid (wx.ownsRow wz.heap.size 9 1 (.slice A3 nk c3) nk (tx h.keys)) /\ Hid (Below wz.heap.size wz wx) /\ Hid (wz.heap.size ≤ b5 /\ Value.ownBlock (.slice A3 nk c3) ≠ some b5))
 case first =>
  have c0 := HB0.out.cell 0
  have c1' := HB0.out.cell 1
  have c2' := HB0.out.cell 2
  have c4 := HB0.out.cell 4
  refine wp_region_held_drew (S := (fun wy => wy.cell? ⟨b0, 0, none⟩ = some (.int .i64 h.kind) /\ wy.cell? ⟨b0, 1, none⟩ = some (.int .i64 h.num) /\ wy.cell? ⟨b0, 2, none⟩ = some (.string ⟨h.text.toArray⟩) /\ wy.cell? ⟨b0, 4, none⟩ = some (.slice A2 nk c2))) (by kernel_rfl) ⟨c0, c1', c2', c4⟩ (fun hHeld => ?_)
  have HKS : Hid (∀ wy, Below wz.heap.size wz wy -> wy.cell? ⟨b0, 0, none⟩ = some (.int .i64 h.kind) /\ wy.cell? ⟨b0, 1, none⟩ = some (.int .i64 h.num) /\ wy.cell? ⟨b0, 2, none⟩ = some (.string ⟨h.text.toArray⟩) /\ wy.cell? ⟨b0, 4, none⟩ = some (.slice A2 nk c2)) := Lib.hid (fun wy hb => by
    have h1 := HB0.out.below hb HB0.out.lt
    exact ⟨h1.cell 0, h1.cell 1, h1.cell 2, h1.cell 4⟩)
  clear c0 c1' c2' c4
  refine tk 0 (h := ?_)
  try simp only [Act.put, List.setIfInBounds_toArray, List.set_cons_zero, List.set_cons_succ]
  refine tk 2 (h := ?_)
  try simp only [Act.put, List.setIfInBounds_toArray, List.set_cons_zero, List.set_cons_succ]
  refine tk 4 (h := ?_)
  try simp only [Act.put, List.setIfInBounds_toArray, List.set_cons_zero, List.set_cons_succ]
  refine tk 6 (h := ?_)
  try simp only [Act.put, List.setIfInBounds_toArray, List.set_cons_zero, List.set_cons_succ]
  refine tk 1 (h := ?_)
  try simp only [Act.put, List.setIfInBounds_toArray, List.set_cons_zero, List.set_cons_succ]
  refine tk 3 (h := ?_)
  try simp only [Act.put, List.setIfInBounds_toArray, List.set_cons_zero, List.set_cons_succ]
  refine tk 5 (h := ?_)
  try simp only [Act.put, List.setIfInBounds_toArray, List.set_cons_zero, List.set_cons_succ]
  refine tk 7 (h := ?_)
  try simp only [Act.put, List.setIfInBounds_toArray, List.set_cons_zero, List.set_cons_succ]
  refine wpAnyH_ready (rs := [8, 10]) (by kernel_rfl) (by simp) ?_
  refine rdy (fun K hK => ?_) (rdy (fun K hK => ?_) AllReadyH.nil)
  . rw [if_pos (by rfl)]
    refine wp_append_any (P := Tryz.prog) _ _ _ 23 rfl wz.heap.size 9 i0 (.string .empty) 1 16 Tryz.underlying23 hi hz0 hz1 hz2 rfl (by decide) (.slice none 0 0) 0 [] rfl (World.ownsRow_nil _ _ _ _) wz.heap.size A2 nk c2 (tx h.keys) rfl (HRK.out.drew) (by simp [tx, Value.oneCell']) (by have := HLQ.out; unfold maxLen; omega) (by have := HLQ.out; omega) (Nat.le_refl _) ?_
    intro v' w' h1 h2 h3
    rw [Nat.zero_add, List.nil_append] at h1
    obtain ⟨A3, c3, rfl, _⟩ := own_readsN h1
    have HOW := Lib.hid h1
    have HBN : Hid (Below wz.heap.size wz w') := Lib.hid (Below.grown (Below.refl _ wz).drew h2 (Nat.le_refl _) (fun g hg => by simp [Value.ownBlock] at hg))
    refine hK.out _ _ (HKS.out _ HBN.out) (fun _ => ?_)
    clear hK h1 h2 h3
    try simp only [Act.put, List.setIfInBounds_toArray, List.set_cons_zero, List.set_cons_succ]
    refine tk 9 (h := ?_)
    try simp only [Act.put, List.setIfInBounds_toArray, List.set_cons_zero, List.set_cons_succ]
    refine wpAnyH_ready (rs := [10]) (by kernel_rfl) (by simp) ?_
    refine rdy (fun K hK => ?_) AllReadyH.nil
    rw [if_pos (by rfl)]
    go_simp
    obtain ⟨w2, hw2⟩ : ∃ w2, w2 = w'.alloc (.cells #[.int .i64 0, .int .i64 0, .string ⟨#[]⟩, .slice none 0 0, .slice none 0 0] 54) := ⟨_, rfl⟩
    have HB5 : Hid (Blk w2 w'.heap.size 54 #[.int .i64 0, .int .i64 0, .string ⟨#[]⟩, .slice none 0 0, .slice none 0 0]) := Lib.hid (by rw [hw2]; exact Blk.new _ _ _)
    have HBW : Hid (Below wz.heap.size wz w2) := Lib.hid (by rw [hw2]; exact HBN.out.alloc HBN.out.size _)
    have HOW2 : Hid (w2.ownsRow wz.heap.size 9 1 (.slice A3 nk c3) nk (tx h.keys)) := Lib.hid (by rw [hw2]; exact own_kept HOW.out ((Below.refl _ _).alloc (Nat.le_refl _) _))
    have HNE : Hid (wz.heap.size ≤ w'.heap.size /\ Value.ownBlock (.slice A3 nk c3) ≠ some w'.heap.size) := Lib.hid ⟨HBN.out.size, fun e => by have := (own_lt HOW.out e).2; omega⟩
    refine hK.out _ _ (by (try rw [<- hw2]); exact HKS.out _ HBW.out) (fun _ => ?_)
    clear hK
    (try rw [<- hw2])
    clear hw2
    try simp only [Act.put, List.setIfInBounds_toArray, List.set_cons_zero, List.set_cons_succ]
    refine wpAnyH_ready (rs := [11]) (by kernel_rfl) (by simp) ?_
    refine rdy (fun K hK => ?_) AllReadyH.nil
    have f0 := HB5.out.frozen 0
    have f1 := HB5.out.frozen 1
    have f2 := HB5.out.frozen 2
    have f3 := HB5.out.frozen 3
    have f4 := HB5.out.frozen 4
    have c0 := HB5.out.cell 0
    have c1' := HB5.out.cell 1
    have c2' := HB5.out.cell 2
    have c3' := HB5.out.cell 3
    have c4 := HB5.out.cell 4
    rw [if_pos (by rfl)]
    go_simp
    refine hK.out _ _ (HKS.out _ (below_set5 HBW.out HBN.out.size)) (fun _ => ?_)
    clear hK f0 f1 f2 f3 f4 c0 c1' c2' c3' c4
    try simp only [Act.put, List.setIfInBounds_toArray, List.set_cons_zero, List.set_cons_succ]
    refine wpAnyH_done (by kernel_rfl) ?_ _
    go_wp2_with fail
    go_meet
    exact ⟨w'.heap.size, A3, c3, rfl, Lib.hid (blk_set5 HB5.out), Lib.hid (own_at HOW2.out fun b hb => heap_set5 b (fun e => HNE.out.2 (e ▸ hb))), Lib.hid (below_set5 HBW.out HBN.out.size), HNE⟩
  . rw [if_pos (by rfl)]
    go_simp
    obtain ⟨w2, hw2⟩ : ∃ w2, w2 = (wz.alloc (.cells #[.int .i64 0, .int .i64 0, .string ⟨#[]⟩, .slice none 0 0, .slice none 0 0] 54)).drew := ⟨_, rfl⟩
    have HB50 : Hid (Blk w2 wz.heap.size 54 #[.int .i64 0, .int .i64 0, .string ⟨#[]⟩, .slice none 0 0, .slice none 0 0]) := Lib.hid (by rw [hw2]; exact Blk.drew (Blk.new wz _ _))
    have HBW0 : Hid (Below wz.heap.size wz w2) := Lib.hid (by rw [hw2]; exact ((Below.refl _ wz).alloc (Nat.le_refl _) _).drew)
    refine hK.out _ _ (by (try rw [<- hw2]); exact HKS.out _ HBW0.out) (fun _ => ?_)
    clear hK
    (try rw [<- hw2])
    clear hw2
    try simp only [Act.put, List.setIfInBounds_toArray, List.set_cons_zero, List.set_cons_succ]
    refine wpAnyH_ready (rs := [8]) (by kernel_rfl) (by simp) ?_
    refine rdy (fun K hK => ?_) AllReadyH.nil
    rw [if_pos (by rfl)]
    refine wp_append_any (P := Tryz.prog) _ _ _ 23 rfl wz.heap.size 9 i0 (.string .empty) 1 16 Tryz.underlying23 hi hz0 hz1 hz2 rfl (by decide) (.slice none 0 0) 0 [] rfl (World.ownsRow_nil _ _ _ _) w2.heap.size A2 nk c2 (tx h.keys) rfl ((HRK.out.below HBW0.out).more HBW0.out.size) (by simp [tx, Value.oneCell']) (by have := HLQ.out; unfold maxLen; omega) (by have := HLQ.out; omega) HBW0.out.size ?_
    intro v' w' h1 h2 h3
    rw [Nat.zero_add, List.nil_append] at h1
    obtain ⟨A3, c3, rfl, _⟩ := own_readsN h1
    have HOW2 := Lib.hid h1
    have HBW : Hid (Below wz.heap.size wz w') := Lib.hid (Below.grown HBW0.out h2 HBW0.out.size (fun g hg => by simp [Value.ownBlock] at hg))
    have HB5 : Hid (Blk w' wz.heap.size 54 #[.int .i64 0, .int .i64 0, .string ⟨#[]⟩, .slice none 0 0, .slice none 0 0]) := Lib.hid (HB50.out.grown h2 (by simp [Value.ownBlock]))
    have HNE : Hid (wz.heap.size ≤ wz.heap.size /\ Value.ownBlock (.slice A3 nk c3) ≠ some wz.heap.size) := Lib.hid ⟨Nat.le_refl _, fun e => own_blk_ne HOW2.out HB5.out (by decide) e⟩
    refine hK.out _ _ (HKS.out _ HBW.out) (fun _ => ?_)
    clear hK h1 h2 h3
    try simp only [Act.put, List.setIfInBounds_toArray, List.set_cons_zero, List.set_cons_succ]
    refine tk 9 (h := ?_)
    try simp only [Act.put, List.setIfInBounds_toArray, List.set_cons_zero, List.set_cons_succ]
    refine wpAnyH_ready (rs := [11]) (by kernel_rfl) (by simp) ?_
    refine rdy (fun K hK => ?_) AllReadyH.nil
    have f0 := HB5.out.frozen 0
    have f1 := HB5.out.frozen 1
    have f2 := HB5.out.frozen 2
    have f3 := HB5.out.frozen 3
    have f4 := HB5.out.frozen 4
    have c0 := HB5.out.cell 0
    have c1' := HB5.out.cell 1
    have c2' := HB5.out.cell 2
    have c3' := HB5.out.cell 3
    have c4 := HB5.out.cell 4
    rw [if_pos (by rfl)]
    go_simp
    refine hK.out _ _ (HKS.out _ (below_set5 HBW.out (Nat.le_refl _))) (fun _ => ?_)
    clear hK f0 f1 f2 f3 f4 c0 c1' c2' c3' c4
    try simp only [Act.put, List.setIfInBounds_toArray, List.set_cons_zero, List.set_cons_succ]
    refine wpAnyH_done (by kernel_rfl) ?_ _
    go_wp2_with fail
    go_meet
    exact ⟨wz.heap.size, A3, c3, rfl, Lib.hid (blk_set5 HB5.out), Lib.hid (own_at HOW2.out fun b hb => heap_set5 b (fun e => HNE.out.2 (e ▸ hb))), Lib.hid (below_set5 HBW.out (Nat.le_refl _)), HNE⟩
 case rest =>
  obtain ⟨b5, A3, c3, rfl, HB5, HOK, HBW, HN5⟩ := hcut
  have c3' := (HB0.out.below HBW.out HB0.out.lt).cell 3
  have HBR : Hid (Blk wc (b0 + 1) 54 #[.int .i64 0, .int .i64 0, .string ⟨#[]⟩, .slice none 0 0, .slice none 0 0]) := Lib.hid (HR0.out.below HBW.out HR0.out.lt)
  have HWC : Hid (Below w.heap.size w wc) := Lib.hid (HZ.out.1.trans (HBW.out.mono HZ.out.1.size))
  have HSZ : Hid (b0 + 1 < b5 /\ b5 < wc.heap.size /\ w.heap.size ≤ b5) := Lib.hid ⟨by have := HN5.out.1; have := HZ.out.2; omega, HB5.out.lt, by have := HN5.out.1; have := HZ.out.1.size; omega⟩
  have hrange : ∀ (wy : World) (cs : Array Value) (g : Nat), Blk wy g 54 cs -> wy.rangeAt g 0 cs.toList := fun wy cs g hg j u hu => by
    rw [Nat.zero_add, hg.cell j]; simpa using hu
  clear HB0 HR0
  go_wp2_with fail
  go_loopw [21] (fun i wr => ∃ (j : Nat) (v : Value) (bs : List Nat), j ≤ L /\ i = .int .i64 j /\ Hid (Blk wr b5 54 #[.int .i64 h.kind, .int .i64 h.num, .string ⟨h.text.toArray⟩, v, .slice A3 nk c3]) /\ Hid (OL encJ wr wc.heap.size 54 9 v (k.take j) bs) /\ Hid (Kp wc.heap.size (· = b5) wc wr)) (fun i _ => L - (intOf i).toNat)
  case atStart => exact ⟨0, _, [], by omega, rfl, HB5, Lib.hid (OL.nil _ _ _ _ _), Lib.hid (Kp.refl _ _ _)⟩
  case round =>
    clear HB5 c3'
    obtain ⟨j, v, bs, hj, rfl, HB, HO, HP⟩ := hrel
    have HBE : Hid (Below w.heap.size w wr) := Lib.hid (HWC.out.trans (Kp.below ((HP.out.less HWC.out.size).mono (Nat.le_refl _) (fun k hk e => by have := HSZ.out.2.2; omega))))
    by_cases hlt : j < L
    . obtain ⟨ad, rfl, hab, hcs⟩ := HR1.out.2 (by omega)
      obtain ⟨h0, kk, he, hsz, htv⟩ := HTR.out.at_ (i := j) (by have := HL.out; omega)
      obtain ⟨A4, c4, A5, c5, us2, ecs, htv'⟩ := htv
      have hcs' := fun j u hu => (HBE.out.cell (show (ad.add j).block < w.heap.size by rw [block_of_add]; exact hab)).trans (hcs j u hu)
      obtain ⟨cc0, cc1, cc2, cc3, cc4⟩ := cells5 hcs' ecs
      have HTV : Hid (TV encJ w S h0 kk (jcells h0 (.slice A4 kk.len c4) (.slice A5 h0.keys.length c5))) := Lib.hid ⟨A4, c4, A5, c5, us2, rfl, htv'⟩
      have hdk : kk.deep + 1 ≤ k.deep := deep_at he
      have hlv1 : 0 < lv := by have := HD.out; omega
      have HCL : Hid (∀ wx, Below w.heap.size w wx -> Calls Tryz.prog 213 #[.agg #[.int .i64 h0.kind, .int .i64 h0.num, .string ⟨h0.text.toArray⟩, .slice A4 kk.len c4, .slice A5 h0.keys.length c5], .int .i64 ((lv - 1 : Nat) : Int)] wx (VPost h0 kk wx)) :=
        Lib.hid fun wx hb => HC.out kk.sz (by have := HK.out; omega) h0 kk _ _ S (lv - 1) wx (Nat.le_refl _) (by have := HD.out; omega) (by omega) (HTV.out.kept fun p hp => hb.cell (HS.out _ hp)) (fun b h => by have := HS.out b h; have := hb.size; omega)
      have HTK : Hid (k.take (j + 1) = (k.take j).app (.cons h0 kk .nil)) := Lib.hid (F.take_succ he)
      have HTL : Hid ((k.take j).len = j) := Lib.hid (F.take_len (by have := HL.out; omega))
      have hpos : (0 < (lv : Int)) = True := eq_true (by omega)
      have HSUB : Hid (IntKind.i64.wrap ((lv : Int) - 1) = ((lv - 1 : Nat) : Int)) := Lib.hid (by rw [IntWalk.i64_in _ (by omega)]; omega)
      obtain ⟨A0, q0, e0⟩ := HO.out.form
      rw [HTL.out] at e0
      subst e0
      clear htv' ecs hcs hcs' he hsz hab
      go_upto_region 6 with fail
      obtain ⟨wa, hwa⟩ : ∃ wa, wa = wr.alloc (.cells #[.int .i64 h0.kind, .int .i64 h0.num, .string ⟨h0.text.toArray⟩, .slice A4 kk.len c4, .slice A5 h0.keys.length c5] 54) := ⟨_, rfl⟩
      rw [<- hwa]
      have hb1 : Below wr.heap.size wr wa := by rw [hwa]; exact (Below.refl _ _).alloc (Nat.le_refl _) _
      have HBA : Hid (Blk wa wr.heap.size 54 #[.int .i64 h0.kind, .int .i64 h0.num, .string ⟨h0.text.toArray⟩, .slice A4 kk.len c4, .slice A5 h0.keys.length c5]) := Lib.hid (by rw [hwa]; exact Blk.new _ _ _)
      have HSA : Hid (wa.heap.size = wr.heap.size + 1 /\ wc.heap.size ≤ wr.heap.size /\ w.heap.size ≤ wr.heap.size) := Lib.hid (by rw [hwa]; exact ⟨by simp, HP.out.size, HBE.out.size⟩)
      have HB1 : Hid (Blk wa b5 54 #[.int .i64 h.kind, .int .i64 h.num, .string ⟨h.text.toArray⟩, .slice A0 j q0, .slice A3 nk c3]) := Lib.hid (HB.out.below hb1 HB.out.lt)
      have HO1 := Lib.hid (HO.out.below hb1)
      have HP1 := Lib.hid (HP.out.step hb1 HP.out.size)
      have HBE1 : Hid (Below w.heap.size w wa) := Lib.hid (HBE.out.trans (hb1.mono HBE.out.size))
      have HLTr : Hid (∀ b ∈ ob (.slice A0 j q0) ++ bs, b < wr.heap.size) := Lib.hid (fun b hb => by
        obtain ⟨vs, ho, ht, _⟩ := HO.out
        rcases List.mem_append.1 hb with h | h
        . exact (ob_lt ho h).2
        . exact (ht.lt b h).2)
      clear hwa hb1 HB HO HP HBE cc0 cc1 cc2 cc3 cc4
      have hS0 := HB1.out.cell 3
      have hS1 := hrange wa _ _ HBA.out
      refine wp_region_R (S := (fun wy => wy.cell? ⟨b5, 3, none⟩ = some (.slice A0 j q0) /\ wy.rangeAt wr.heap.size 0 [.int .i64 h0.kind, .int .i64 h0.num, .string ⟨h0.text.toArray⟩, .slice A4 kk.len c4, .slice A5 h0.keys.length c5])) 9 (by kernel_rfl) ⟨hS0, hS1⟩ (fun hHeld => ?_)
      clear hS0 hS1
      refine wpAnyR_take (i := 0) (v := ?_) (by kernel_rfl) (by simp only [List.getElem?_toArray, List.getElem?_cons_zero]; rfl) (by kernel_rfl) (by kernel_rfl) (by kernel_rfl) (by exact fun _ _ _ h => h) (Or.inl ⟨by rfl, ?_⟩) (by assumption) ?_
      rotate_left
      . (intro w hSw; (try dsimp only at hSw); go_simp; try with_reducible rfl)
      try simp only [Act.put, List.setIfInBounds_toArray, List.set_cons_zero, List.set_cons_succ]
      refine wpAnyR_take (i := 2) (by kernel_rfl) (by simp only [List.getElem?_toArray, List.getElem?_cons_succ, List.getElem?_cons_zero]; rfl) (by kernel_rfl) (by kernel_rfl) (by kernel_rfl) (by exact fun _ _ _ h => h) (yieldsIf_load_mid (by rfl) _ _ rfl _ _ rfl [.int .i64 h0.kind, .int .i64 h0.num, .string ⟨h0.text.toArray⟩, .slice A4 kk.len c4, .slice A5 h0.keys.length c5] _ (fun _ h => h.2) Tryz.underlying54 rfl (by kernel_rfl)) (by assumption) ?_
      try simp only [Act.put, List.setIfInBounds_toArray, List.set_cons_zero, List.set_cons_succ]
      refine wpAnyR_take (i := 3) (v := ?_) (by kernel_rfl) (by simp only [List.getElem?_toArray, List.getElem?_cons_succ, List.getElem?_cons_zero]; rfl) (by kernel_rfl) (by kernel_rfl) (by kernel_rfl) (by exact fun _ _ _ h => h) (Or.inl ⟨by rfl, ?_⟩) (by assumption) ?_
      rotate_left
      . (intro w hSw; (try dsimp only at hSw); go_simp; try with_reducible rfl)
      try simp only [Act.put, List.setIfInBounds_toArray, List.set_cons_zero, List.set_cons_succ]
      refine wpAnyR_take (i := 4) (v := ?_) (by kernel_rfl) (by simp only [List.getElem?_toArray, List.getElem?_cons_succ, List.getElem?_cons_zero]; rfl) (by kernel_rfl) (by kernel_rfl) (by kernel_rfl) (by exact fun _ _ _ h => h) (Or.inl ⟨by rfl, ?_⟩) (by assumption) ?_
      rotate_left
      . (intro w hSw; (try dsimp only at hSw); go_simp; try with_reducible rfl)
      try simp only [Act.put, List.setIfInBounds_toArray, List.set_cons_zero, List.set_cons_succ]
      refine wpAnyR_take (i := 1) (v := ?_) (by kernel_rfl) (by simp only [List.getElem?_toArray, List.getElem?_cons_succ, List.getElem?_cons_zero]; rfl) (by kernel_rfl) (by kernel_rfl) (by kernel_rfl) (by exact fun _ _ _ h => h) (Or.inl ⟨by rfl, ?_⟩) (by assumption) ?_
      rotate_left
      . (intro w hSw; (try dsimp only at hSw); go_simp; try with_reducible rfl)
      try simp only [Act.put, List.setIfInBounds_toArray, List.set_cons_zero, List.set_cons_succ]
      refine wpAnyR_ready (rs := [5]) (by kernel_rfl) (by simp) ?_
      refine rdyR (fun K hK => ?_) AllReadyR.nil
      rw [if_pos (by rfl)]
      go_simp
      rw [HSUB.out]
      refine (HCL.out _ HBE1.out.drew).mono ?_
      rintro x w4 ⟨iv, kv, bs2, rfl, hot, hnd, hb4⟩
      have hb4 : Below wa.heap.size wa w4 := ((Below.refl wa.heap.size wa).drew).trans hb4
      have hot : OT encJ w4 wa.heap.size 54 9 (.cons h0 kk .nil) (jcells h0 iv kv) bs2 := hot
      obtain ⟨⟨A6, c6, rfl⟩, A7, c7, rfl⟩ := ot_form hot
      have HB4 := Lib.hid (HB1.out.below hb4 HB1.out.lt)
      have HBA4 := Lib.hid (HBA.out.below hb4 HBA.out.lt)
      have HO4 := Lib.hid (HO1.out.below hb4)
      have HP4 := Lib.hid (HP1.out.step hb4 HP1.out.size)
      have HBE4 : Hid (Below w.heap.size w w4) := Lib.hid (HBE1.out.trans (hb4.mono HBE1.out.size))
      have HSW : Hid (wa.heap.size ≤ w4.heap.size /\ wc.heap.size ≤ w4.heap.size) := Lib.hid ⟨hb4.size, HP4.out.size⟩
      have HOT := Lib.hid hot
      have HND := Lib.hid hnd
      refine hK.out _ _ (fun _ => ⟨HB4.out.cell 3, hrange _ _ _ HBA4.out⟩) (fun _ => ?_)
      clear hK hb4 hot hnd HB1 HBA HO1 HP1 HBE1
      try simp only [Act.put, List.setIfInBounds_toArray, List.set_cons_zero, List.set_cons_succ]
      refine wpAnyR_ready (rs := [6]) (by kernel_rfl) (by simp) ?_
      refine rdyR (fun K hK => ?_) AllReadyR.nil
      rw [if_pos (by rfl)]
      go_simp
      obtain ⟨w5, hw5⟩ : ∃ w5, w5 = w4.alloc (.cells #[.int .i64 h0.kind, .int .i64 h0.num, .string ⟨h0.text.toArray⟩, .slice A6 kk.len c6, .slice A7 h0.keys.length c7] 54) := ⟨_, rfl⟩
      have hb5 : Below w4.heap.size w4 w5 := by rw [hw5]; exact (Below.refl _ _).alloc (Nat.le_refl _) _
      have HG : Hid (w5.heap[w4.heap.size]? = some (.cells #[.int .i64 h0.kind, .int .i64 h0.num, .string ⟨h0.text.toArray⟩, .slice A6 kk.len c6, .slice A7 h0.keys.length c7] 54)) := Lib.hid (by rw [hw5]; exact heap_alloc_new _ _)
      have HB5 := Lib.hid (HB4.out.below hb5 HB4.out.lt)
      have HBA5 := Lib.hid (HBA4.out.below hb5 HBA4.out.lt)
      have HP5 := Lib.hid (HP4.out.step hb5 HP4.out.size)
      have HS5 : Hid (w5.heap.size = w4.heap.size + 1) := Lib.hid (by rw [hw5]; simp)
      have HO5 := Lib.hid (HO4.out.below hb5)
      have HOT5 := Lib.hid (HOT.out.kept (w' := w5) fun b hb => hb5.block b (HOT.out.lt b hb).2)
      have HLT4 : Hid (∀ b, (b ∈ ob (.slice A0 j q0) ++ bs -> b < wa.heap.size) /\ (b ∈ bs2 -> wa.heap.size ≤ b)) := Lib.hid (by
        intro b
        exact ⟨fun hb => by have := HLTr.out b hb; have := HSA.out.1; omega, fun hb => (HOT.out.lt b hb).1⟩)
      refine hK.out _ _ (fun _ => by (try rw [<- hw5]); exact ⟨HB5.out.cell 3, hrange _ _ _ HBA5.out⟩) (fun _ => ?_)
      clear hK
      (try rw [<- hw5])
      clear hw5 hb5 HB4 HBA4 HP4 HO4 HOT
      try simp only [Act.put, List.setIfInBounds_toArray, List.set_cons_zero, List.set_cons_succ]
      refine wpAnyR_ready (rs := [7]) (by kernel_rfl) (by simp) ?_
      refine rdyR (fun K hK => ?_) AllReadyR.nil
      rw [if_pos (by rfl)]
      have HNEW : Hid (∃ xs, w5.ownsRow wc.heap.size 54 5 (.slice A0 j q0) j xs /\ ∀ v' w', w'.ownsRow wc.heap.size 54 5 v' (j + 1) (xs ++ jcells h0 (.slice A6 kk.len c6) (.slice A7 h0.keys.length c7)) -> w5.grownBy w' (Value.ownBlock (.slice A0 j q0)) -> (v'.ownBlock = Value.ownBlock (.slice A0 j q0) ∨ v'.ownBlock = some w5.heap.size) ->
          OL encJ w' wc.heap.size 54 9 v' (k.take (j + 1)) (bs ++ bs2)) := Lib.hid (by
        obtain ⟨xs, ho, ht, hnn⟩ := HO5.out
        have ho2 := ho
        rw [HTL.out] at ho2
        refine ⟨xs, ho2, fun v' w' h1 h2 h3 => ?_⟩
        rw [HTK.out]
        refine OL.push ht (HOT5.out.less (by have := HSA.out; omega)) ?_ (by rw [HTL.out]; exact h1) h2 h3
        rw [<- List.append_assoc, List.nodup_append]
        refine ⟨hnn, HND.out, fun a ha b hb e => ?_⟩
        subst e
        have h6 := (HLT4.out a).2 hb
        have h7 := (HLT4.out a).1 ha
        omega)
      obtain ⟨xs, hown, hnew⟩ := HNEW.out
      refine wp_append_any (P := Tryz.prog) _ _ _ 52 rfl wc.heap.size 54 j0 _ 5 80 Tryz.underlying52 hjI hy0 hy1 hy2 rfl (by decide) (.slice A0 j q0) j xs rfl hown w5.heap.size (some ⟨w4.heap.size, 0, none⟩) 1 1 (jcells h0 (.slice A6 kk.len c6) (.slice A7 h0.keys.length c7)) rfl (Reads.of_block HG.out rfl) (encJ.one _ _ _ _ _ _ _) (by have := HLN.out; unfold maxLen; omega) (by have := HLN.out; omega) (by have := HSW.out; have := HS5.out; omega) ?_
      intro v6 w6 h1 h2 h3
      have HOL6 := Lib.hid (hnew _ _ h1 h2 h3)
      have hnb5 : Value.ownBlock (.slice A0 j q0) ≠ some b5 := fun e => by have := (own_lt hown e).1; have := HSZ.out.2.1; omega
      have HB6 := Lib.hid (HB5.out.grown h2 (fun e => hnb5 e.symm))
      have HP6 : Hid (Kp wc.heap.size (· = b5) wc w6) := Lib.hid (HP5.out.grown h2 (by have := HSW.out; have := HS5.out; omega) (fun g hg => .inl (own_lt hown hg).1))
      obtain ⟨A8, c8, rfl⟩ := HOL6.out.form
      have hS6 : w6.cell? ⟨b5, 3, none⟩ = some (.slice A0 j q0) /\ w6.rangeAt wr.heap.size 0 [.int .i64 h0.kind, .int .i64 h0.num, .string ⟨h0.text.toArray⟩, .slice A4 kk.len c4, .slice A5 h0.keys.length c5] := ⟨HB6.out.cell 3, hrange _ _ _ (HBA5.out.grown h2 (fun e => by
        have h7 := HLTr.out wr.heap.size (List.mem_append_left _ (by simp [ob, <- e]))
        omega))⟩
      refine hK.out _ _ (fun _ => hS6) (fun _ => ?_)
      clear hK h1 h2 h3 hown hnew
      try simp only [Act.put, List.setIfInBounds_toArray, List.set_cons_zero, List.set_cons_succ]
      refine wpAnyR_take (i := 8) (v := ?_) (by kernel_rfl) (by simp only [List.getElem?_toArray, List.getElem?_cons_succ, List.getElem?_cons_zero]; rfl) (by kernel_rfl) (by kernel_rfl) (by kernel_rfl) (by exact fun _ _ _ h => h) (Or.inl ⟨by rfl, ?_⟩) (by assumption) ?_
      rotate_left
      . (intro w hSw; (try dsimp only at hSw); go_simp; try with_reducible rfl)
      try simp only [Act.put, List.setIfInBounds_toArray, List.set_cons_zero, List.set_cons_succ]
      refine wpAnyR_ready (rs := [9]) (by kernel_rfl) (by simp) ?_
      refine rdyR (fun K hK => ?_) AllReadyR.nil
      have f3 := HB6.out.frozen 3
      have c3'' := HB6.out.cell 3
      rw [if_pos (by rfl)]
      go_simp
      refine hK.out _ _ (fun h => absurd rfl h) (fun _ => ?_)
      clear hK f3 c3'' hS6
      try simp only [Act.put, List.setIfInBounds_toArray, List.set_cons_zero, List.set_cons_succ]
      refine wpAnyR_done (by kernel_rfl) ?_ _
      have hLN := HLN.out
      go_wp2_with fail
      go_roundw
      case rel => exact ⟨j + 1, _, bs ++ bs2, by omega, by go_num, Lib.hid (HB6.out.set_ 3 _), Lib.hid (HOL6.out.kept fun b h1 _ => Below.heap_setCell _ _ _ b (by have := HSZ.out.2.1; show b ≠ b5; omega)), Lib.hid (HP6.out.setCell (.inr rfl) _)⟩
      case measure => simp [intOf]; omega
    . have hjL : j = L := by omega
      subst hjL
      have HRW := Lib.hid (HP.out.blk HBR.out (by have := HSZ.out; omega) (by have := HSZ.out; omega))
      have HO1 : Hid (OL encJ wr wc.heap.size 54 9 v k bs) := Lib.hid (by have := HO.out; rwa [HL.out, F.take_all] at this)
      have HKW : Hid (wr.ownsRow wz.heap.size 9 1 (.slice A3 nk c3) nk (tx h.keys)) := Lib.hid (own_at HOK.out fun b hb => HP.out.block b (own_lt HOK.out hb).2 (fun e => HN5.out.2 (e ▸ hb)))
      have HKL : Hid (∀ b ∈ ob (.slice A3 nk c3), b < wc.heap.size) := Lib.hid (fun b hb => (ob_lt HOK.out hb).2)
      obtain ⟨A0, q0, rfl⟩ := HO1.out.form
      have c0 := HB.out.cell 0
      have c1' := HB.out.cell 1
      have c2' := HB.out.cell 2
      have c3'' := HB.out.cell 3
      have c4 := HB.out.cell 4
      have d0 := HRW.out.cell 0
      have d1 := HRW.out.cell 1
      have d2 := HRW.out.cell 2
      have d3 := HRW.out.cell 3
      have d4 := HRW.out.cell 4
      have g0 := HRW.out.frozen 0
      have g1 := HRW.out.frozen 1
      have g2 := HRW.out.frozen 2
      have g3 := HRW.out.frozen 3
      have g4 := HRW.out.frozen 4
      go_wp2
      have hsz := HSZ.out
      have hzz := HZ.out
      have hbw := HB0W.out
      have hn5 := HN5.out
      have hol5 := (HO1.out.set5 (a0 := .int .i64 h.kind) (a1 := .int .i64 h.num) (a2 := .string ⟨h.text.toArray⟩) (a3 := .slice A0 k.len q0) (a4 := .slice A3 nk c3) (b := b0 + 1) (by omega))
      have hkw5 := own_at (w' := st5 wr (b0 + 1) (.int .i64 h.kind) (.int .i64 h.num) (.string ⟨h.text.toArray⟩) (.slice A0 k.len q0) (.slice A3 nk c3)) HKW.out (fun b hb => heap_set5 b (by have := (own_lt HKW.out hb).1; omega))
      obtain ⟨ht5, hn6⟩ := ol_value (h := h) hol5 (by rw [<- HL.out]; have := HLN.out; omega) (by rw [<- HNK.out]; exact HLQ.out) (by rw [<- HNK.out]; exact hkw5) (by omega : w.heap.size ≤ wc.heap.size) (by omega : w.heap.size ≤ wz.heap.size) HKL.out
      exact bodyPost_ret (results_row rfl _ _ (b0 + 1) 54 _ (0, 0) _ rfl (blk_set5 HRW.out) Tryz.underlying54 rfl (by kernel_rfl)) rfl ⟨_, _, _, rfl, ht5, hn6, below_set5 HBE.out (by omega)⟩
-- >
theorem clones_any (n : Nat) : n ≤ 1099511627776 -> CloneC n := by
 induction n using Nat.strongRecOn with
 | ind n ih => exact fun hn => clone_step n hn fun m hm => ih m hm (by omega)
end Js
end Go.Proofs.YtjohdaobhonioaaGreatDoor
