/-
  Parts of the proof: CfO.
-/
import Derived.Test.YtjohdaobhonioaaGreatDoorPkFo14
import Derived.Test.YtjohdaobhonioaaGreatDoorPkFo6
import Derived.Deep.RegionHeld3
namespace Go.Proofs.YtjohdaobhonioaaGreatDoor
open Go.RowKit
namespace Js.Cf
def PutP (ob Bn : Nat) (Q : Nat -> Prop) (l : List (B × V)) (iv kv : Value) (w : World) (iv' kv' : Value) (w' : World) : Prop :=
 Blk w' ob 104 #[.int .i64 6, .int .i64 0, .string ⟨#[]⟩, iv', kv'] /\ KJ w' Bn Q kv' (l.map Prod.fst) iv' (ofL (l.map Prod.snd)) /\ Kp w.heap.size (fun b => b = ob ∨ iv.ownBlock = some b ∨ kv.ownBlock = some b) w w' /\
 (∀ b, iv'.ownBlock = some b -> iv.ownBlock = some b ∨ w.heap.size ≤ b) /\ (∀ b, kv'.ownBlock = some b -> kv.ownBlock = some b ∨ w.heap.size ≤ b)
theorem KJ.off {w : World} {Bn : Nat} {Q : Nat -> Prop} {kv iv : Value} {ks : List B} {f : F} (h : KJ w Bn Q kv ks iv f) {g : Nat} (hg : g < Bn) : kv.ownBlock ≠ some g /\ iv.ownBlock ≠ some g := by
 obtain ⟨S, vs, ho, _⟩ := h.items
 exact ⟨fun e => by have := (own_lt h.keys e).1; omega, fun e => by have := (own_lt ho e).1; omega⟩
theorem KJ.alloc {w : World} {Bn : Nat} {Q : Nat -> Prop} {kv iv : Value} {ks : List B} {f : F} (h : KJ w Bn Q kv ks iv f) (o : Obj) : KJ (w.alloc o) Bn Q kv ks iv f := h.kept (fun b _ hb => Below.heap_alloc w o b hb) (by simp)
theorem KJ.drew {w : World} {Bn : Nat} {Q : Nat -> Prop} {kv iv : Value} {ks : List B} {f : F} (h : KJ w Bn Q kv ks iv f) : KJ w.drew Bn Q kv ks iv f := h.kept (fun _ _ _ => rfl) (Nat.le_refl _)
theorem KJ.setc {w : World} {Bn : Nat} {Q : Nat -> Prop} {kv iv : Value} {ks : List B} {f : F} (h : KJ w Bn Q kv ks iv f) {p : Addr} (hp : p.block < Bn) (hq : ¬ Q p.block) (u : Value) : KJ (w.setCell p u) Bn Q kv ks iv f := h.kept (fun b hb _ => Below.heap_setCell w p u b (fun e => by rcases hb with hb | hb; (omega); exact hq (e ▸ hb))) (by simp)
theorem setCell_comm (w : World) {p q : Addr} (h : p.block ≠ q.block) (u v : Value) : (w.setCell p u).setCell q v = (w.setCell q v).setCell p u := by
 unfold World.setCell
 simp only
 congr 1
 apply Array.ext_getElem?
 intro k
 simp only [Array.getElem?_modify]
 by_cases h1 : q.block = k
 . by_cases h2 : p.block = k
   . exact absurd (h2.trans h1.symm) h
   . simp [h1, h2]
 . by_cases h2 : p.block = k
   . simp [h1, h2]
   . simp [h1, h2]
theorem setCells_setCell (g : Nat) {q : Addr} (h : g ≠ q.block) (v : Value) : ∀ (vs : List Value) (o : Nat) (w : World), (w.setCell q v).setCells g o vs = (w.setCells g o vs).setCell q v
 | [], _, _ => rfl
 | u :: r, o, w => by
  show ((w.setCell q v).setCell ⟨g, o, none⟩ u).setCells g (o + 1) r = ((w.setCell ⟨g, o, none⟩ u).setCells g (o + 1) r).setCell q v
  rw [<- setCells_setCell g h v r (o + 1) (w.setCell ⟨g, o, none⟩ u), setCell_comm w (p := q) (q := ⟨g, o, none⟩) (Ne.symm h)]
theorem put_end {ob Bn n g cap : Nat} {Q : Nat -> Prop} (hQ : ¬ Q ob) {wa w8 : World} {iv kv jv jk : Value} {l : List (B × V)} {ks : List B} {v : V} {xs Z : List Value} {S S2 : Nat -> Prop} (hb : Blk wa ob 104 #[.int .i64 6, .int .i64 0, .string ⟨#[]⟩, iv, kv]) (hob : ob < Bn)
   (hK : KJ wa Bn Q kv ks iv (ofL (l.map Prod.snd))) (hn : (ofL (l.map Prod.snd)).len = n) (ho : wa.ownsRow Bn 54 5 iv n xs) (hp : TR encJ wa S (ofL (l.map Prod.snd)) xs) (hS : ∀ b, S b -> Q b /\ b < wa.heap.size /\ kv.ownBlock ≠ some b /\ iv.ownBlock ≠ some b)
   (htv : TV encJ wa S2 v.1 v.2 (jcells v.1 jv jk)) (hS2 : ∀ b, S2 b -> Q b /\ b < wa.heap.size /\ kv.ownBlock ≠ some b /\ iv.ownBlock ≠ some b)
   (h8 : w8.ownsRow Bn 54 5 (.slice (some ⟨g, 0, none⟩) (n + 1) cap) (n + 1) (xs ++ Z)) (hZ : Z.length = 5) (hg : wa.grownBy w8 iv.ownBlock) (hl : g = wa.heap.size ∨ iv.ownBlock = some g) :
   let wf := (w8.setCells g (n * 5) (jcells v.1 jv jk)).setCell ⟨ob, 3, none⟩ (.slice (some ⟨g, 0, none⟩) (n + 1) cap)
   Blk wf ob 104 #[.int .i64 6, .int .i64 0, .string ⟨#[]⟩, .slice (some ⟨g, 0, none⟩) (n + 1) cap, kv] /\ KJ wf Bn Q kv ks (.slice (some ⟨g, 0, none⟩) (n + 1) cap) (ofL ((l ++ [(([] : B), v)]).map Prod.snd)) /\
     Kp wa.heap.size (fun b => b = ob ∨ iv.ownBlock = some b) wa wf := by
 have hxl : xs.length = n * 5 := ho.1
 have ht := own_tail (jcells v.1 jv jk) w8 xs Z h8 (by rw [hZ]; rfl)
 rw [hxl] at ht
 obtain ⟨t1, t2⟩ := ht
 have hgB : Bn ≤ g := (own_lt h8 rfl).1
 have hgo : g ≠ ob := by omega
 have hobw := hb.lt
 have hgr : wa.grownBy (w8.setCells g (n * 5) (jcells v.1 jv jk)) iv.ownBlock :=
   ⟨t2.os.trans hg.os, t2.tape.trans hg.tape, t2.output.trans hg.output, Nat.le_trans hg.size t2.size, fun k hk hx => (t2.block k (Nat.lt_of_lt_of_le hk hg.size) (fun e => by
     injection e with e
     subst e
     rcases hl with hl | hl
     . omega
     . exact hx hl.symm)).trans (hg.block k hk hx)⟩
 have hbo : iv.ownBlock ≠ some ob := (hK.off hob).2
 have hit := hK.item (v2' := .slice (some ⟨g, 0, none⟩) (n + 1) cap) hp hS htv.tr hS2 (by rw [hn]; exact t1) hgr (by
   rcases hl with hl | hl
   . right; rw [hl]; rfl
   . left; rw [hl]; rfl)
 refine ⟨?_, ?_, ?_⟩
 . exact ((hb.grown hgr (fun e => hbo e.symm)).set_ 3 _)
 . rw [List.map_append, List.map_cons, List.map_nil, ofL_snoc]
   exact hit.setc hob hQ _
 . exact Kp.setCell ((Kp.refl _ _ _).grown hgr (Nat.le_refl _) (fun k e => .inr (.inr e))) (.inr (.inl rfl)) _
set_option maxHeartbeats 16000000 in
set_option maxRecDepth 100000 in
theorem put_any (ob Bn : Nat) (Q : Nat -> Prop) (hQ : ¬ Q ob) (kd : Int) (iv kv : Value) (l : List (B × V)) (key : B) (v : V) (jv jk : Value) (S2 : Nat -> Prop) (w : World)
   (hb : Blk w ob 104 #[.int .i64 kd, .int .i64 0, .string ⟨#[]⟩, iv, kv]) (hob : ob < Bn) (hK : KJ w Bn Q kv (l.map Prod.fst) iv (ofL (l.map Prod.snd))) (hl : l.length ≤ 1099511627776)
   (htv : TV encJ w S2 v.1 v.2 (jcells v.1 jv jk)) (hS2 : ∀ b, S2 b -> Q b /\ b < w.heap.size /\ kv.ownBlock ≠ some b /\ iv.ownBlock ≠ some b) :
   Calls Tryz.prog 38 #[.pointer (some ⟨ob, 0, none⟩), .string ⟨key.toArray⟩, .agg #[.int .i64 v.1.kind, .int .i64 v.1.num, .string ⟨v.1.text.toArray⟩, jv, jk]] w fun x w' => x = .returned (.tuple #[]) /\ ∃ iv' kv', PutP ob Bn Q (l ++ [(key, v)]) iv kv w iv' kv' w' := by
 obtain ⟨i0, hi, hz0, hz1, hz2⟩ := info_parts infoStr
 obtain ⟨j0, hjI, hy0, hy1, hy2⟩ := info_parts infoJson
 obtain ⟨A1, c1, ekv⟩ := hK.form1
 obtain ⟨A2, c2, eiv⟩ := hK.form2
 obtain ⟨n, hn⟩ : ∃ n, n = l.length := ⟨_, rfl⟩
 have hn1 : (l.map Prod.fst).length = n := by rw [List.length_map, hn]
 have hn2 : (ofL (l.map Prod.snd)).len = n := by rw [ofL_len, List.length_map, hn]
 rw [hn1] at ekv
 rw [hn2] at eiv
 rw [<- hn] at hl
 have HSZ := Lib.hid hK.size
 have HOB := Lib.hid hob
 have HQ := Lib.hid hQ
 have hN2 : ∀ b, S2 b -> b ≠ ob := fun b hb e => by
   have h := (hS2 b hb).1
   rw [e] at h; exact hQ h
 have HN2 := Lib.hid hN2
 have HOF := Lib.hid (hK.off hob)
 have HS2 := Lib.hid hS2
 have HTV := Lib.hid htv
 have HONE : Hid (∀ x ∈ jcells v.1 jv jk, x.oneCell' = true) := Lib.hid htv.tr.one
 have HLN := Lib.hid (And.intro hn1 hn2)
 have HIV : Hid (iv = .slice A2 n c2 /\ kv = .slice A1 n c1) := Lib.hid ⟨eiv, ekv⟩
 obtain ⟨wz, hwz⟩ : ∃ wz, wz = (w.setCell ⟨ob, 0, none⟩ (.int .i64 6)).alloc (.cells #[.int .i64 v.1.kind, .int .i64 v.1.num, .string ⟨v.1.text.toArray⟩, jv, jk] 54) := ⟨_, rfl⟩
 obtain ⟨bx, hbx⟩ : ∃ bx, bx = w.heap.size := ⟨_, rfl⟩
 have hobw : ob < w.heap.size := hb.lt
 have HBO : Hid (bx ≠ ob) := Lib.hid (by rw [hbx]; omega)
 have HIVL : Hid (∀ b, iv.ownBlock = some b -> b < bx) := Lib.hid (fun b e => by rw [hbx]; obtain ⟨_, _, ho, _⟩ := hK.items; exact (own_lt ho e).2)
 have HKP0 : Hid (Kp w.heap.size (fun b => b = ob ∨ iv.ownBlock = some b ∨ kv.ownBlock = some b) w wz) := Lib.hid (by rw [hwz]; exact (Kp.setCell (Kp.refl _ _ _) (.inr (.inl rfl)) _).alloc (by simp) _)
 have HB1 : Hid (Blk wz ob 104 #[.int .i64 6, .int .i64 0, .string ⟨#[]⟩, iv, kv]) := Lib.hid (by rw [hwz]; exact (hb.set_ 0 _).alloc _)
 have HX1 : Hid (Blk wz bx 54 #[.int .i64 v.1.kind, .int .i64 v.1.num, .string ⟨v.1.text.toArray⟩, jv, jk]) := Lib.hid (by rw [hwz, hbx]; have := Blk.new (w.setCell ⟨ob, 0, none⟩ (.int .i64 6)) 54 #[.int .i64 v.1.kind, .int .i64 v.1.num, .string ⟨v.1.text.toArray⟩, jv, jk]; simpa using this)
 have HK1 : Hid (KJ wz Bn Q kv (l.map Prod.fst) iv (ofL (l.map Prod.snd))) := Lib.hid (by rw [hwz]; exact (hK.setc hob hQ _).alloc _)
 have HTV1 : Hid (TV encJ wz S2 v.1 v.2 (jcells v.1 jv jk)) := Lib.hid (htv.kept fun p hp => by
   have h2 := hS2 _ hp
   rw [hwz]
   exact World.cell?_of_block ((Below.heap_alloc _ _ _ (by simp; exact h2.2.1)).trans (Below.heap_setCell w ⟨ob, 0, none⟩ _ p.block (by show p.block ≠ ob; exact hN2 _ hp))))
 have HZS : Hid (wz.heap.size = bx + 1 /\ bx = w.heap.size) := Lib.hid (by rw [hwz, hbx]; simp)
 have f0 := (hb.alloc (.cells #[.int .i64 v.1.kind, .int .i64 v.1.num, .string ⟨v.1.text.toArray⟩, jv, jk] 54)).frozen 0
 have y0 := (hb.alloc (.cells #[.int .i64 v.1.kind, .int .i64 v.1.num, .string ⟨v.1.text.toArray⟩, jv, jk] 54)).cell 0
 clear hK hS2 htv hob hn1 hn2 hn hQ hN2
 subst ekv eiv
 go_enter Tryz.func38, Tryz.ntmps38
 go_upto_region 2 with fail
 rw [<- hwz, <- hbx]
 clear hwz hbx f0 y0 hb
 have z4 := HB1.out.cell 4
 have g4 := HB1.out.frozen 4
 have hsz := HSZ.out
 have hws : Bn ≤ wz.heap.size := by have := HZS.out; omega
 go_upto_region 3 with (at_builtin; go_loud (refine wpList_append_any _ rfl _ _ 23 rfl Bn 9 i0 (.string .empty) 1 16 Tryz.underlying23 hi hz0 hz1 hz2 rfl (by decide) (.slice A1 n c1) n (tx (l.map Prod.fst)) rfl (by have := HK1.out.keys; rw [HLN.out.1] at this; exact World.ownsRow.alloc this _) (wz.heap.size + 1) (some ⟨wz.heap.size, 0, none⟩) 1 1 [.string ⟨key.toArray⟩] rfl ((Reads.of_block (heap_alloc_new _ _) rfl).more (by simp)) (by intro u hu; obtain rfl := List.mem_singleton.1 hu; rfl) (by unfold maxLen; omega) (by omega) (by simp; omega) ?_; intro v6 w6 q1 q2 q3; obtain ⟨A6, c6, e6, _⟩ := own_readsN q1; subst e6; have HOW6 := Lib.hid q1; have HGR6 := Lib.hid q2; have HOB6 := Lib.hid q3; have HB6 : Hid (Blk w6 ob 104 #[.int .i64 6, .int .i64 0, .string ⟨#[]⟩, .slice A2 n c2, .slice A1 n c1]) := Lib.hid ((HB1.out.alloc _).grown q2 (fun e => HOF.out.1 e.symm)); have z4' := HB6.out.cell 4; have g4' := HB6.out.frozen 4; clear q1 q2 q3))
 obtain ⟨w7, hw7⟩ : ∃ w7, w7 = w6.setCell ⟨ob, 4, none⟩ (.slice A6 (n + 1) c6) := ⟨_, rfl⟩
 have hofx := own_blk_ne HK1.out.keys HX1.out (by decide)
 have hkl : ∀ b, (Value.slice A1 n c1).ownBlock = some b -> b < wz.heap.size := fun b e => (own_lt HK1.out.keys e).2
 have HB7 : Hid (Blk w7 ob 104 #[.int .i64 6, .int .i64 0, .string ⟨#[]⟩, .slice A2 n c2, .slice A6 (n + 1) c6]) := Lib.hid (by rw [hw7]; exact HB6.out.set_ 4 _)
 have HX7 : Hid (Blk w7 bx 54 #[.int .i64 v.1.kind, .int .i64 v.1.num, .string ⟨v.1.text.toArray⟩, jv, jk]) := Lib.hid (by rw [hw7]; exact ((HX1.out.alloc _).grown HGR6.out (fun e => hofx e.symm)).far (by show bx ≠ ob; have := HZS.out; omega) _)
 have HK7 : Hid (KJ w7 Bn Q (.slice A6 (n + 1) c6) ((l ++ [(key, v)]).map Prod.fst) (.slice A2 n c2) (ofL (l.map Prod.snd))) := Lib.hid (by
   rw [hw7, List.map_append, List.map_cons, List.map_nil]
   exact ((HK1.out.alloc _).key (by rw [HLN.out.1]; exact HOW6.out) HGR6.out HOB6.out).setc HOB.out HQ.out _)
 have HKP7 : Hid (Kp w.heap.size (fun b => b = ob ∨ (Value.slice A2 n c2).ownBlock = some b ∨ (Value.slice A1 n c1).ownBlock = some b) w w7) := Lib.hid (by
   rw [hw7]
   exact Kp.setCell ((HKP0.out.alloc HKP0.out.size _).grown HGR6.out (by have := HKP0.out.size; simp; omega) (fun k e => .inr (.inr (.inr e)))) (.inr (.inl rfl)) _)
 have HOW7 : Hid (∀ b, (Value.slice A6 (n + 1) c6).ownBlock = some b -> (Value.slice A1 n c1).ownBlock = some b ∨ w.heap.size ≤ b) := Lib.hid (fun b e => by
   rcases HOB6.out with h | h
   . left; rw [<- h]; exact e
   . right; rw [h] at e; simp at e; have := HZS.out; omega)
 have HS7 : Hid (∀ b, S2 b -> Q b /\ b < w7.heap.size /\ (Value.slice A6 (n + 1) c6).ownBlock ≠ some b /\ (Value.slice A2 n c2).ownBlock ≠ some b) := Lib.hid (fun b hb => by
   obtain ⟨a1, a2, a3, a4⟩ := HS2.out b hb
   refine ⟨a1, Nat.lt_of_lt_of_le a2 HKP7.out.size, fun e => ?_, a4⟩
   rcases HOW7.out b e with h | h
   . exact a3 h
   . omega)
 have HTV7 : Hid (TV encJ w7 S2 v.1 v.2 (jcells v.1 jv jk)) := Lib.hid (HTV.out.kept fun p hp => by
   obtain ⟨a1, a2, a3, a4⟩ := HS2.out _ hp
   exact HKP7.out.cell a2 (fun h => by rcases h with h | h | h; exact HN2.out _ hp h; exact a4 h; exact a3 h))
 have hws7 : Bn ≤ w7.heap.size := by have := HKP7.out.size; omega
 rw [<- hw7]
 clear hw7 z4 g4 z4' g4' hofx hkl HB1 HX1 HTV1 HK1 HGR6 HOB6 HOW6 HB6 HKP0 HZS hws
 obtain ⟨S6, xs, ho6, ht6, hS6⟩ := HK7.out.items
 have HO6 : Hid (w7.ownsRow Bn 54 5 (.slice A2 n c2) n xs) := Lib.hid (by rw [HLN.out.2] at ho6; exact ho6)
 have HT6 := Lib.hid ht6
 have HS6 := Lib.hid hS6
 clear ho6 ht6 hS6
 have z3 := HB7.out.cell 3
 have hnn : ((n : Int) < (n : Int) + 1) = True := eq_true (by omega)
 have HRA : Hid (∀ wy, Blk wy bx 54 #[.int .i64 v.1.kind, .int .i64 v.1.num, .string ⟨v.1.text.toArray⟩, jv, jk] -> wy.rangeAt bx 0 [.int .i64 v.1.kind, .int .i64 v.1.num, .string ⟨v.1.text.toArray⟩, jv, jk]) := Lib.hid (fun wy h j u hu => by rw [Nat.zero_add, h.cell]; simpa using hu)
 refine wp_region_held_drew (S := (fun wy => wy.rangeAt bx 0 [.int .i64 v.1.kind, .int .i64 v.1.num, .string ⟨v.1.text.toArray⟩, jv, jk])) (by kernel_rfl) (HRA.out _ HX7.out) (fun hHeld => ?_)
 refine tk 0 (h := ?_)
 try simp only [Act.put, List.setIfInBounds_toArray, List.set_cons_zero, List.set_cons_succ]
 refine tk 1 (h := ?_)
 try simp only [Act.put, List.setIfInBounds_toArray, List.set_cons_zero, List.set_cons_succ]
 refine tk 2 (h := ?_)
 try simp only [Act.put, List.setIfInBounds_toArray, List.set_cons_zero, List.set_cons_succ]
 refine tk 3 (h := ?_)
 try simp only [Act.put, List.setIfInBounds_toArray, List.set_cons_zero, List.set_cons_succ]
 refine wpAnyH_take (i := 5) (oi := { dst := some 27, op := Op.load 54 (Operand.tmp 5), type := 54, pos := "config.go:27", after := #[], guard := none }) rfl (by kernel_rfl) (by kernel_rfl) (by kernel_rfl) (fun _ _ _ h => h) (yieldsIf_load_mid (by rfl) _ _ rfl _ _ rfl [.int .i64 v.1.kind, .int .i64 v.1.num, .string ⟨v.1.text.toArray⟩, jv, jk] _ (fun _ h => h) Tryz.underlying54 rfl (by kernel_rfl)) (by assumption) ?_
 try simp only [Act.put, List.setIfInBounds_toArray, List.set_cons_zero, List.set_cons_succ]
 refine wpAnyH_ready (rs := [4, 7]) (by kernel_rfl) (by simp) ?_
 refine rdy (fun K hK => ?_) (rdy (fun K hK => ?_) AllReadyH.nil)
 . skip
   rw [if_pos (by rfl)]
   go_simp
   refine hK.out _ _ (by assumption) (fun _ => ?_)
   clear hK
   try simp only [Act.put, List.setIfInBounds_toArray, List.set_cons_zero, List.set_cons_succ]
   refine tk 6 (h := ?_)
   try simp only [Act.put, List.setIfInBounds_toArray, List.set_cons_zero, List.set_cons_succ]
   refine wpAnyH_ready (rs := [7]) (by kernel_rfl) (by simp) ?_
   refine rdy (fun K hK => ?_) AllReadyH.nil
   rw [if_pos (by rfl)]
   go_simp
   refine hK.out _ _ (HRA.out _ (Blk.alloc HX7.out.drew _)) (fun _ => ?_)
   clear hK
   try simp only [Act.put, List.setIfInBounds_toArray, List.set_cons_zero, List.set_cons_succ]
   refine wpAnyH_ready (rs := [8]) (by kernel_rfl) (by simp) ?_
   refine rdy (fun K hK => ?_) AllReadyH.nil
   rw [if_pos (by rfl)]
   refine wp_append_any (P := Tryz.prog) _ _ _ 52 rfl Bn 54 j0 _ 5 80 Tryz.underlying52 hjI hy0 hy1 hy2 rfl (by decide) (.slice A2 n c2) n xs rfl (World.ownsRow.alloc (own_at HO6.out fun _ _ => rfl) _) (w7.heap.size + 1) (some ⟨w7.heap.size, 0, none⟩) 1 1 [.int .i64 0, .int .i64 0, .string ⟨#[]⟩, .slice none 0 0, .slice none 0 0] rfl ((Reads.of_block (heap_alloc_new _ _) rfl).more (by simp)) (by simp [Value.oneCell']) (by unfold maxLen; omega) (by omega) (by simp [World.drew]; omega) ?_
   intro v8 w8 g1 g2 g3
   obtain ⟨g, cap, e8, _, _⟩ := g1.form (by omega)
   subst e8
   have H8 := Lib.hid g1
   have HG8 := Lib.hid g2
   have HL8 := Lib.hid g3
   clear g1 g2 g3
   refine hK.out _ _ (HRA.out _ (((HX7.out.alloc _).drew).grown HG8.out (fun e => by have := HIVL.out bx e.symm; omega))) (fun _ => ?_)
   clear hK
   try simp only [Act.put, List.setIfInBounds_toArray, List.set_cons_zero, List.set_cons_succ]
   refine tk 9 (h := ?_)
   try simp only [Act.put, List.setIfInBounds_toArray, List.set_cons_zero, List.set_cons_succ]
   refine tk 11 (h := ?_)
   try simp only [Act.put, List.setIfInBounds_toArray, List.set_cons_zero, List.set_cons_succ]
   refine tk 12 (h := ?_)
   try simp only [Act.put, List.setIfInBounds_toArray, List.set_cons_zero, List.set_cons_succ]
   refine tk 13 (h := ?_)
   try simp only [Act.put, List.setIfInBounds_toArray, List.set_cons_zero, List.set_cons_succ]
   have HGX : Hid (g ≠ bx) := Lib.hid (fun e => by
     rcases HL8.out with h | h
     . have := HIVL.out g h.symm; omega
     . have h9 := HX7.out.lt; simp [Value.ownBlock] at h; omega)
   have HB8 : Hid (Blk w8 ob 104 #[.int .i64 6, .int .i64 0, .string ⟨#[]⟩, .slice A2 n c2, .slice A6 (n + 1) c6]) := Lib.hid (((HB7.out.alloc _).drew).grown HG8.out (fun e => HOF.out.2 e.symm))
   have HX8 : Hid (Blk w8 bx 54 #[.int .i64 v.1.kind, .int .i64 v.1.num, .string ⟨v.1.text.toArray⟩, jv, jk]) := Lib.hid (((HX7.out.alloc _).drew).grown HG8.out (fun e => by have := HIVL.out bx e.symm; omega))
   have HT8 := Lib.hid (own_tail (jcells v.1 jv jk) w8 xs _ H8.out (by rfl))
   have HTH := Lib.hid (own_there H8.out)
   have HTHS : Hid (∀ u, (w8.setCell ⟨ob, 3, none⟩ u).there g (n * 5) 5) := Lib.hid (fun u => by
     have h1 := own_there (own_at (w' := w8.setCell ⟨ob, 3, none⟩ u) H8.out fun b hb => Below.heap_setCell w8 ⟨ob, 3, none⟩ u b (by have h1 := (own_lt H8.out hb).1; have h2 := HOB.out; show b ≠ ob; omega))
     rw [HO6.out.1] at h1; exact h1)
   rw [HO6.out.1] at HT8 HTH
   have HGO : Hid (g ≠ ob) := Lib.hid (fun e => by have h1 := (own_lt H8.out rfl).1; have h2 := HOB.out; omega)
   have HWA : Hid (w7.heap.size ≤ (w7.alloc (.cells #[.int .i64 0, .int .i64 0, .string ⟨#[]⟩, .slice none 0 0, .slice none 0 0] 54)).drew.heap.size) := Lib.hid (by simp)
   have HPE := Lib.hid (put_end HQ.out (ob := ob) (Bn := Bn) (n := n) (g := g) (cap := cap) (wa := (w7.alloc (.cells #[.int .i64 0, .int .i64 0, .string ⟨#[]⟩, .slice none 0 0, .slice none 0 0] 54)).drew) (w8 := w8) (iv := .slice A2 n c2) (kv := .slice A6 (n + 1) c6) (jv := jv) (jk := jk) (l := l) (v := v) (xs := xs)
     ((HB7.out.alloc _).drew) HOB.out ((HK7.out.alloc _).drew) HLN.out.2 (own_at HO6.out fun b hb => Below.heap_alloc w7 _ b (own_lt HO6.out hb).2) (HT6.out.kept fun p hp => World.cell?_of_block (Below.heap_alloc w7 _ p.block (HS6.out _ hp).2.1))
     (fun b hb => ⟨(HS6.out b hb).1, Nat.lt_of_lt_of_le (HS6.out b hb).2.1 HWA.out, (HS6.out b hb).2.2⟩) (HTV7.out.kept fun p hp => World.cell?_of_block (Below.heap_alloc w7 _ p.block (HS7.out _ hp).2.1)) (fun b hb => ⟨(HS7.out b hb).1, Nat.lt_of_lt_of_le (HS7.out b hb).2.1 HWA.out, (HS7.out b hb).2.2⟩)
     H8.out (by rfl) HG8.out (by
       rcases HL8.out with h | h
       . exact .inr h.symm
       . left; simpa [Value.ownBlock] using h))
   have HFN : Hid (PutP ob Bn Q (l ++ [(key, v)]) (.slice A2 n c2) (.slice A1 n c1) w (.slice (some ⟨g, 0, none⟩) (n + 1) cap) (.slice A6 (n + 1) c6) ((w8.setCells g (n * 5) (jcells v.1 jv jk)).setCell ⟨ob, 3, none⟩ (.slice (some ⟨g, 0, none⟩) (n + 1) cap))) := Lib.hid (by
     obtain ⟨p1, p2, p3⟩ := HPE.out
     refine ⟨p1, by simpa using p2, ?_, fun b e => ?_, HOW7.out⟩
     . exact ((HKP7.out.alloc HKP7.out.size _).drew).trans (p3.mono (Nat.le_trans HKP7.out.size HWA.out) (fun k _ h => h.imp id .inl))
     . rcases HL8.out with h | h
       . left; rw [<- h]; exact e
       . right; rw [h] at e; simp at e; have := HKP7.out.size; omega)
   clear HPE HB7 HX7 HK7 HKP7 HTV7 HS7 HO6 HT6 HS6 HWA hws7
   refine wpAnyH_ready (rs := [10, 14]) (by kernel_rfl) (by simp) ?_
   refine rdy (fun K hK => ?_) (rdy (fun K hK => ?_) AllReadyH.nil)
   . skip
     rw [if_pos (by rfl)]
     refine wp_store_mid 54 _ _ rfl g (n * 5) #[.int .i64 v.1.kind, .int .i64 v.1.num, .string ⟨v.1.text.toArray⟩, jv, jk] rfl rfl HTH.out (by kernel_rfl) (all_oneCell_toArray HONE.out) ?_
     have HB9 := Lib.hid (HB8.out.grown HT8.out.2 (fun e => by injection e with e; exact HGO.out e.symm))
     have HX9 := Lib.hid (HX8.out.grown HT8.out.2 (fun e => by injection e with e; exact HGX.out e.symm))
     obtain ⟨w9, hw9⟩ : ∃ w9, w9 = w8.setCells g (n * 5) (jcells v.1 jv jk) := ⟨_, rfl⟩
     have e9 : w8.setCells g (n * 5) (#[.int .i64 v.1.kind, .int .i64 v.1.num, .string ⟨v.1.text.toArray⟩, jv, jk] : Array Value).toList = w9 := hw9.symm
     rw [e9]
     rw [<- hw9] at HB9 HX9 HFN
     clear hw9 e9 HT8
     refine hK.out _ _ (HRA.out _ HX9.out) (fun _ => ?_)
     clear hK
     try simp only [Act.put]
     have k3 := HB9.out.cell 3
     have l3 := HB9.out.frozen 3
     refine wpAnyH_ready (rs := [14]) (by kernel_rfl) (by simp) ?_
     refine rdy (fun K hK => ?_) AllReadyH.nil
     rw [if_pos (by rfl)]
     go_simp
     refine hK.out _ _ (HRA.out _ (HX9.out.far HBO.out _)) (fun _ => ?_)
     clear hK
     try simp only [Act.put, List.setIfInBounds_toArray, List.set_cons_zero, List.set_cons_succ]
     refine wpAnyH_done (by kernel_rfl) ?_ _
     go_wp2_with fail
     go_end0
     exact ⟨rfl, _, _, HFN.out⟩
   . skip
     rw [if_pos (by rfl)]
     have k3 := HB8.out.cell 3
     have l3 := HB8.out.frozen 3
     go_simp
     refine hK.out _ _ (HRA.out _ (HX8.out.far HBO.out _)) (fun _ => ?_)
     clear hK
     try simp only [Act.put, List.setIfInBounds_toArray, List.set_cons_zero, List.set_cons_succ]
     refine wpAnyH_ready (rs := [10]) (by kernel_rfl) (by simp) ?_
     refine rdy (fun K hK => ?_) AllReadyH.nil
     rw [if_pos (by rfl)]
     refine wp_store_mid 54 _ _ rfl g (n * 5) #[.int .i64 v.1.kind, .int .i64 v.1.num, .string ⟨v.1.text.toArray⟩, jv, jk] rfl rfl (HTHS.out _) (by kernel_rfl) (all_oneCell_toArray HONE.out) ?_
     have HX9 := Lib.hid (HX8.out.grown HT8.out.2 (fun e => by injection e with e; exact HGX.out e.symm))
     obtain ⟨w9, hw9⟩ : ∃ w9, w9 = w8.setCells g (n * 5) (jcells v.1 jv jk) := ⟨_, rfl⟩
     have e9 : (w8.setCell ⟨ob, 3, none⟩ (.slice (some ⟨g, 0, none⟩) (n + 1) cap)).setCells g (n * 5) (#[.int .i64 v.1.kind, .int .i64 v.1.num, .string ⟨v.1.text.toArray⟩, jv, jk] : Array Value).toList = w9.setCell ⟨ob, 3, none⟩ (.slice (some ⟨g, 0, none⟩) (n + 1) cap) := by rw [hw9]; exact setCells_setCell g HGO.out _ _ _ _
     rw [e9]
     rw [<- hw9] at HX9 HFN
     clear hw9 e9 HT8
     refine hK.out _ _ (HRA.out _ (HX9.out.far HBO.out _)) (fun _ => ?_)
     clear hK
     try simp only [Act.put]
     refine wpAnyH_done (by kernel_rfl) ?_ _
     go_wp2_with fail
     go_end0
     exact ⟨rfl, _, _, HFN.out⟩
 . skip
   rw [if_pos (by rfl)]
   go_simp
   refine hK.out _ _ (HRA.out _ (Blk.alloc HX7.out.drew _)) (fun _ => ?_)
   clear hK
   try simp only [Act.put, List.setIfInBounds_toArray, List.set_cons_zero, List.set_cons_succ]
   refine wpAnyH_ready (rs := [4]) (by kernel_rfl) (by simp) ?_
   refine rdy (fun K hK => ?_) AllReadyH.nil
   have z3b := (HB7.out.alloc (.cells #[.int .i64 0, .int .i64 0, .string ⟨#[]⟩, .slice none 0 0, .slice none 0 0] 54)).drew.cell 3
   rw [if_pos (by rfl)]
   go_simp
   refine hK.out _ _ (by assumption) (fun _ => ?_)
   clear hK
   try simp only [Act.put, List.setIfInBounds_toArray, List.set_cons_zero, List.set_cons_succ]
   refine tk 6 (h := ?_)
   try simp only [Act.put, List.setIfInBounds_toArray, List.set_cons_zero, List.set_cons_succ]
   refine wpAnyH_ready (rs := [8]) (by kernel_rfl) (by simp) ?_
   refine rdy (fun K hK => ?_) AllReadyH.nil
   rw [if_pos (by rfl)]
   refine wp_append_any (P := Tryz.prog) _ _ _ 52 rfl Bn 54 j0 _ 5 80 Tryz.underlying52 hjI hy0 hy1 hy2 rfl (by decide) (.slice A2 n c2) n xs rfl (World.ownsRow.alloc (own_at HO6.out fun _ _ => rfl) _) (w7.heap.size + 1) (some ⟨w7.heap.size, 0, none⟩) 1 1 [.int .i64 0, .int .i64 0, .string ⟨#[]⟩, .slice none 0 0, .slice none 0 0] rfl ((Reads.of_block (heap_alloc_new _ _) rfl).more (by simp)) (by simp [Value.oneCell']) (by unfold maxLen; omega) (by omega) (by simp [World.drew]; omega) ?_
   intro v8 w8 g1 g2 g3
   obtain ⟨g, cap, e8, _, _⟩ := g1.form (by omega)
   subst e8
   have H8 := Lib.hid g1
   have HG8 := Lib.hid g2
   have HL8 := Lib.hid g3
   clear g1 g2 g3
   refine hK.out _ _ (HRA.out _ (((HX7.out.alloc _).drew).grown HG8.out (fun e => by have := HIVL.out bx e.symm; omega))) (fun _ => ?_)
   clear hK
   try simp only [Act.put, List.setIfInBounds_toArray, List.set_cons_zero, List.set_cons_succ]
   refine tk 9 (h := ?_)
   try simp only [Act.put, List.setIfInBounds_toArray, List.set_cons_zero, List.set_cons_succ]
   refine tk 11 (h := ?_)
   try simp only [Act.put, List.setIfInBounds_toArray, List.set_cons_zero, List.set_cons_succ]
   refine tk 12 (h := ?_)
   try simp only [Act.put, List.setIfInBounds_toArray, List.set_cons_zero, List.set_cons_succ]
   refine tk 13 (h := ?_)
   try simp only [Act.put, List.setIfInBounds_toArray, List.set_cons_zero, List.set_cons_succ]
   have HGX : Hid (g ≠ bx) := Lib.hid (fun e => by
     rcases HL8.out with h | h
     . have := HIVL.out g h.symm; omega
     . have h9 := HX7.out.lt; simp [Value.ownBlock] at h; omega)
   have HB8 : Hid (Blk w8 ob 104 #[.int .i64 6, .int .i64 0, .string ⟨#[]⟩, .slice A2 n c2, .slice A6 (n + 1) c6]) := Lib.hid (((HB7.out.alloc _).drew).grown HG8.out (fun e => HOF.out.2 e.symm))
   have HX8 : Hid (Blk w8 bx 54 #[.int .i64 v.1.kind, .int .i64 v.1.num, .string ⟨v.1.text.toArray⟩, jv, jk]) := Lib.hid (((HX7.out.alloc _).drew).grown HG8.out (fun e => by have := HIVL.out bx e.symm; omega))
   have HT8 := Lib.hid (own_tail (jcells v.1 jv jk) w8 xs _ H8.out (by rfl))
   have HTH := Lib.hid (own_there H8.out)
   have HTHS : Hid (∀ u, (w8.setCell ⟨ob, 3, none⟩ u).there g (n * 5) 5) := Lib.hid (fun u => by
     have h1 := own_there (own_at (w' := w8.setCell ⟨ob, 3, none⟩ u) H8.out fun b hb => Below.heap_setCell w8 ⟨ob, 3, none⟩ u b (by have h1 := (own_lt H8.out hb).1; have h2 := HOB.out; show b ≠ ob; omega))
     rw [HO6.out.1] at h1; exact h1)
   rw [HO6.out.1] at HT8 HTH
   have HGO : Hid (g ≠ ob) := Lib.hid (fun e => by have h1 := (own_lt H8.out rfl).1; have h2 := HOB.out; omega)
   have HWA : Hid (w7.heap.size ≤ (w7.alloc (.cells #[.int .i64 0, .int .i64 0, .string ⟨#[]⟩, .slice none 0 0, .slice none 0 0] 54)).drew.heap.size) := Lib.hid (by simp)
   have HPE := Lib.hid (put_end HQ.out (ob := ob) (Bn := Bn) (n := n) (g := g) (cap := cap) (wa := (w7.alloc (.cells #[.int .i64 0, .int .i64 0, .string ⟨#[]⟩, .slice none 0 0, .slice none 0 0] 54)).drew) (w8 := w8) (iv := .slice A2 n c2) (kv := .slice A6 (n + 1) c6) (jv := jv) (jk := jk) (l := l) (v := v) (xs := xs)
     ((HB7.out.alloc _).drew) HOB.out ((HK7.out.alloc _).drew) HLN.out.2 (own_at HO6.out fun b hb => Below.heap_alloc w7 _ b (own_lt HO6.out hb).2) (HT6.out.kept fun p hp => World.cell?_of_block (Below.heap_alloc w7 _ p.block (HS6.out _ hp).2.1))
     (fun b hb => ⟨(HS6.out b hb).1, Nat.lt_of_lt_of_le (HS6.out b hb).2.1 HWA.out, (HS6.out b hb).2.2⟩) (HTV7.out.kept fun p hp => World.cell?_of_block (Below.heap_alloc w7 _ p.block (HS7.out _ hp).2.1)) (fun b hb => ⟨(HS7.out b hb).1, Nat.lt_of_lt_of_le (HS7.out b hb).2.1 HWA.out, (HS7.out b hb).2.2⟩)
     H8.out (by rfl) HG8.out (by
       rcases HL8.out with h | h
       . exact .inr h.symm
       . left; simpa [Value.ownBlock] using h))
   have HFN : Hid (PutP ob Bn Q (l ++ [(key, v)]) (.slice A2 n c2) (.slice A1 n c1) w (.slice (some ⟨g, 0, none⟩) (n + 1) cap) (.slice A6 (n + 1) c6) ((w8.setCells g (n * 5) (jcells v.1 jv jk)).setCell ⟨ob, 3, none⟩ (.slice (some ⟨g, 0, none⟩) (n + 1) cap))) := Lib.hid (by
     obtain ⟨p1, p2, p3⟩ := HPE.out
     refine ⟨p1, by simpa using p2, ?_, fun b e => ?_, HOW7.out⟩
     . exact ((HKP7.out.alloc HKP7.out.size _).drew).trans (p3.mono (Nat.le_trans HKP7.out.size HWA.out) (fun k _ h => h.imp id .inl))
     . rcases HL8.out with h | h
       . left; rw [<- h]; exact e
       . right; rw [h] at e; simp at e; have := HKP7.out.size; omega)
   clear HPE HB7 HX7 HK7 HKP7 HTV7 HS7 HO6 HT6 HS6 HWA hws7
   refine wpAnyH_ready (rs := [10, 14]) (by kernel_rfl) (by simp) ?_
   refine rdy (fun K hK => ?_) (rdy (fun K hK => ?_) AllReadyH.nil)
   . skip
     rw [if_pos (by rfl)]
     refine wp_store_mid 54 _ _ rfl g (n * 5) #[.int .i64 v.1.kind, .int .i64 v.1.num, .string ⟨v.1.text.toArray⟩, jv, jk] rfl rfl HTH.out (by kernel_rfl) (all_oneCell_toArray HONE.out) ?_
     have HB9 := Lib.hid (HB8.out.grown HT8.out.2 (fun e => by injection e with e; exact HGO.out e.symm))
     have HX9 := Lib.hid (HX8.out.grown HT8.out.2 (fun e => by injection e with e; exact HGX.out e.symm))
     obtain ⟨w9, hw9⟩ : ∃ w9, w9 = w8.setCells g (n * 5) (jcells v.1 jv jk) := ⟨_, rfl⟩
     have e9 : w8.setCells g (n * 5) (#[.int .i64 v.1.kind, .int .i64 v.1.num, .string ⟨v.1.text.toArray⟩, jv, jk] : Array Value).toList = w9 := hw9.symm
     rw [e9]
     rw [<- hw9] at HB9 HX9 HFN
     clear hw9 e9 HT8
     refine hK.out _ _ (HRA.out _ HX9.out) (fun _ => ?_)
     clear hK
     try simp only [Act.put]
     have k3 := HB9.out.cell 3
     have l3 := HB9.out.frozen 3
     refine wpAnyH_ready (rs := [14]) (by kernel_rfl) (by simp) ?_
     refine rdy (fun K hK => ?_) AllReadyH.nil
     rw [if_pos (by rfl)]
     go_simp
     refine hK.out _ _ (HRA.out _ (HX9.out.far HBO.out _)) (fun _ => ?_)
     clear hK
     try simp only [Act.put, List.setIfInBounds_toArray, List.set_cons_zero, List.set_cons_succ]
     refine wpAnyH_done (by kernel_rfl) ?_ _
     go_wp2_with fail
     go_end0
     exact ⟨rfl, _, _, HFN.out⟩
   . skip
     rw [if_pos (by rfl)]
     have k3 := HB8.out.cell 3
     have l3 := HB8.out.frozen 3
     go_simp
     refine hK.out _ _ (HRA.out _ (HX8.out.far HBO.out _)) (fun _ => ?_)
     clear hK
     try simp only [Act.put, List.setIfInBounds_toArray, List.set_cons_zero, List.set_cons_succ]
     refine wpAnyH_ready (rs := [10]) (by kernel_rfl) (by simp) ?_
     refine rdy (fun K hK => ?_) AllReadyH.nil
     rw [if_pos (by rfl)]
     refine wp_store_mid 54 _ _ rfl g (n * 5) #[.int .i64 v.1.kind, .int .i64 v.1.num, .string ⟨v.1.text.toArray⟩, jv, jk] rfl rfl (HTHS.out _) (by kernel_rfl) (all_oneCell_toArray HONE.out) ?_
     have HX9 := Lib.hid (HX8.out.grown HT8.out.2 (fun e => by injection e with e; exact HGX.out e.symm))
     obtain ⟨w9, hw9⟩ : ∃ w9, w9 = w8.setCells g (n * 5) (jcells v.1 jv jk) := ⟨_, rfl⟩
     have e9 : (w8.setCell ⟨ob, 3, none⟩ (.slice (some ⟨g, 0, none⟩) (n + 1) cap)).setCells g (n * 5) (#[.int .i64 v.1.kind, .int .i64 v.1.num, .string ⟨v.1.text.toArray⟩, jv, jk] : Array Value).toList = w9.setCell ⟨ob, 3, none⟩ (.slice (some ⟨g, 0, none⟩) (n + 1) cap) := by rw [hw9]; exact setCells_setCell g HGO.out _ _ _ _
     rw [e9]
     rw [<- hw9] at HX9 HFN
     clear hw9 e9 HT8
     refine hK.out _ _ (HRA.out _ (HX9.out.far HBO.out _)) (fun _ => ?_)
     clear hK
     try simp only [Act.put]
     refine wpAnyH_done (by kernel_rfl) ?_ _
     go_wp2_with fail
     go_end0
     exact ⟨rfl, _, _, HFN.out⟩
end Js.Cf
end Go.Proofs.YtjohdaobhonioaaGreatDoor
