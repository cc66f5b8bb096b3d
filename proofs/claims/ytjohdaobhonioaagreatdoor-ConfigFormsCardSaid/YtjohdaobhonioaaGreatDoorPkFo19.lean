/-
  Parts of the proof: CfN.
-/
import Derived.Test.YtjohdaobhonioaaGreatDoorPkFo16
import Derived.Test.YtjohdaobhonioaaGreatDoorPkFo18
namespace Go.Proofs.YtjohdaobhonioaaGreatDoor
open Go.RowKit
namespace Js.Cf
structure OS (wc wr : World) (ob Bn : Nat) (Q : Nat -> Prop) (l : List (B × V)) (iv kv : Value) : Prop where
 ho : ∃ kd : Int, Blk wr ob 104 #[.int .i64 kd, .int .i64 0, .string ⟨#[]⟩, iv, kv] /\ (l ≠ [] -> kd = 6) /\ (l = [] -> kd = 0)
 hk : KJ wr Bn Q kv (l.map Prod.fst) iv (ofL (l.map Prod.snd))
 lt : ob < Bn
 hq : ¬ Q ob
 up : ∀ b, wr.heap.size ≤ b -> Q b
 hf : Kp Bn (fun b => b = ob) wc wr
theorem OS.start {wc : World} {ob Bn : Nat} (Q : Nat -> Prop) (hq : ¬ Q ob) (hb : Blk wc ob 104 #[.int .i64 0, .int .i64 0, .string ⟨#[]⟩, .slice none 0 0, .slice none 0 0]) (lt : ob < Bn) (hs : Bn ≤ wc.heap.size) (hup : ∀ b, wc.heap.size ≤ b -> Q b) : OS wc wc ob Bn Q [] (.slice none 0 0) (.slice none 0 0) :=
 ⟨⟨0, hb, fun h => absurd rfl h, fun _ => rfl⟩, KJ.nil wc Bn Q hs, lt, hq, hup, Kp.refl _ _ _⟩
section
variable {wc wr w' : World} {ob Bn : Nat} {Q : Nat -> Prop} {l : List (B × V)} {iv kv : Value}
theorem OS.size (h : OS wc wr ob Bn Q l iv kv) : Bn ≤ wr.heap.size := h.hk.size
theorem OS.below (h : OS wc wr ob Bn Q l iv kv) (hb : Below wr.heap.size wr w') : OS wc w' ob Bn Q l iv kv := by
 obtain ⟨kd, h1, h2⟩ := h.ho
 exact ⟨⟨kd, h1.below hb h1.lt, h2⟩, h.hk.kept (fun b _ h2 => hb.block b h2) hb.size, h.lt, h.hq, fun b hb2 => h.up b (Nat.le_trans hb.size hb2), h.hf.step hb h.size⟩
theorem OS.blk (h : OS wc wr ob Bn Q l iv kv) {g : Nat} {t : TypeId} {cs : Array Value} (hb : Blk wc g t cs) (hg : g < Bn) (hne : g ≠ ob) : Blk wr g t cs := h.hf.blk hb hg hne
theorem OS.own_lt (h : OS wc wr ob Bn Q l iv kv) : (∀ b, kv.ownBlock = some b -> b < wr.heap.size) /\ (∀ b, iv.ownBlock = some b -> b < wr.heap.size) := by
 obtain ⟨S, vs, ho, _⟩ := h.hk.items
 exact ⟨fun b e => (Js.own_lt h.hk.keys e).2, fun b e => (Js.own_lt ho e).2⟩
theorem OS.fresh {w1 : World} {S2 : Nat -> Prop} (h : OS wc wr ob Bn Q l iv kv) (hS : ∀ b, S2 b -> wr.heap.size ≤ b /\ b < w1.heap.size) : ∀ b, S2 b -> Q b /\ b < w1.heap.size /\ kv.ownBlock ≠ some b /\ iv.ownBlock ≠ some b := fun b hb => by
 obtain ⟨h1, h2⟩ := hS b hb
 have h3 := h.size
 exact ⟨h.up b h1, h2, fun e => by have := h.own_lt.1 b e; omega, fun e => by have := h.own_lt.2 b e; omega⟩
theorem os_putK (h : OS wc wr ob Bn Q l iv kv) (hl : l.length ≤ 1099511627776) (key : B) (v : V) (jv jk : Value) (S2 : Nat -> Prop) (htv : TV encJ wr S2 v.1 v.2 (jcells v.1 jv jk)) (hS2 : ∀ b, S2 b -> Q b /\ b < wr.heap.size /\ kv.ownBlock ≠ some b /\ iv.ownBlock ≠ some b) :
   Calls Tryz.prog 38 #[.pointer (some ⟨ob, 0, none⟩), .string ⟨key.toArray⟩, .agg #[.int .i64 v.1.kind, .int .i64 v.1.num, .string ⟨v.1.text.toArray⟩, jv, jk]] wr fun x w' => x = .returned (.tuple #[]) /\ wr.heap.size ≤ w'.heap.size /\ ∃ iv' kv', OS wc w' ob Bn Q (l ++ [(key, v)]) iv' kv' /\ Kp wr.heap.size (fun b => b = ob ∨ iv.ownBlock = some b ∨ kv.ownBlock = some b) wr w' := by
 obtain ⟨kd, hb, _⟩ := h.ho
 refine (put_any ob Bn Q h.hq kd iv kv l key v jv jk S2 wr hb h.lt h.hk hl htv hS2).mono ?_
 rintro x w1 ⟨rfl, iv', kv', h1, h2, h3, _, _⟩
 refine ⟨rfl, h3.size, iv', kv', ⟨⟨6, h1, fun _ => rfl, fun e => by simp at e⟩, h2, h.lt, h.hq, fun b hb2 => h.up b (Nat.le_trans h3.size hb2), h.hf.trans (h3.mono h.size fun k hk hx => ?_)⟩, h3⟩
 obtain ⟨S, vs, ho, _⟩ := h.hk.items
 rcases hx with hx | hx | hx
 . exact hx
 . have := (Js.own_lt ho hx).1; omega
 . have := (Js.own_lt h.hk.keys hx).1; omega
theorem os_put (h : OS wc wr ob Bn Q l iv kv) (hl : l.length ≤ 1099511627776) (key : B) (v : V) (jv jk : Value) (S2 : Nat -> Prop) (htv : TV encJ wr S2 v.1 v.2 (jcells v.1 jv jk)) (hS2 : ∀ b, S2 b -> Q b /\ b < wr.heap.size /\ kv.ownBlock ≠ some b /\ iv.ownBlock ≠ some b) :
  Calls Tryz.prog 38 #[.pointer (some ⟨ob, 0, none⟩), .string ⟨key.toArray⟩, .agg #[.int .i64 v.1.kind, .int .i64 v.1.num, .string ⟨v.1.text.toArray⟩, jv, jk]] wr fun x w' => x = .returned (.tuple #[]) /\ wr.heap.size ≤ w'.heap.size /\ ∃ iv' kv', OS wc w' ob Bn Q (l ++ [(key, v)]) iv' kv' :=
 (os_putK h hl key v jv jk S2 htv hS2).mono fun _ _ ⟨h1, h2, iv', kv', h3, _⟩ => ⟨h1, h2, iv', kv', h3⟩
theorem os_put_text (h : OS wc wr ob Bn Q l iv kv) (hl : l.length ≤ 1099511627776) (key s : B) :
  Calls Tryz.prog 38 #[.pointer (some ⟨ob, 0, none⟩), .string ⟨key.toArray⟩, .agg #[.int .i64 4, .int .i64 0, .string ⟨s.toArray⟩, .slice none 0 0, .slice none 0 0]] wr fun x w' => x = .returned (.tuple #[]) /\ wr.heap.size ≤ w'.heap.size /\ ∃ iv' kv', OS wc w' ob Bn Q (l ++ [(key, tT s)]) iv' kv' :=
 os_put h hl key (tT s) _ _ (fun _ => False) ⟨none, 0, none, 0, [], rfl, by simp [tT, F.len], ⟨by simp [tT], fun h => by cases h⟩, RdS.none_, rfl, RdS.none_⟩ (fun b h => h.elim)
theorem os_put_num (h : OS wc wr ob Bn Q l iv kv) (hl : l.length ≤ 1099511627776) (key : B) (z : Int) :
  Calls Tryz.prog 38 #[.pointer (some ⟨ob, 0, none⟩), .string ⟨key.toArray⟩, .agg #[.int .i64 3, .int .i64 z, .string ⟨#[]⟩, .slice none 0 0, .slice none 0 0]] wr fun x w' => x = .returned (.tuple #[]) /\ wr.heap.size ≤ w'.heap.size /\ ∃ iv' kv', OS wc w' ob Bn Q (l ++ [(key, tN z)]) iv' kv' :=
 os_put h hl key (tN z) _ _ (fun _ => False) ⟨none, 0, none, 0, [], rfl, by simp [tN, F.len], ⟨by simp [tN], fun h => by cases h⟩, RdS.none_, rfl, RdS.none_⟩ (fun b h => h.elim)
theorem os_put_made {w1 : World} {v : V} {jv jk : Value} (h0 : OS wc wr ob Bn Q l iv kv) (h : OS wc w1 ob Bn Q l iv kv) (hl : l.length ≤ 1099511627776) (key : B) (hv : VT w1 wr.heap.size v (jcells v.1 jv jk).toArray) :
  Calls Tryz.prog 38 #[.pointer (some ⟨ob, 0, none⟩), .string ⟨key.toArray⟩, .agg #[.int .i64 v.1.kind, .int .i64 v.1.num, .string ⟨v.1.text.toArray⟩, jv, jk]] w1 fun x w' => x = .returned (.tuple #[]) /\ w1.heap.size ≤ w'.heap.size /\ ∃ iv' kv', OS wc w' ob Bn Q (l ++ [(key, v)]) iv' kv' := by
 obtain ⟨iv2, kv2, S, e, ht, hS⟩ := hv
 have e2 : jv = iv2 /\ jk = kv2 := by simpa [jcells] using e
 obtain ⟨rfl, rfl⟩ := e2
 exact os_put h hl key v _ _ S ht (h0.fresh hS)
theorem OS.turn {Q' : Nat -> Prop} (h : OS wc wr ob Bn Q l iv kv) (hk : ∀ b, b < wr.heap.size -> (b = ob ∨ Q b ∨ kv.ownBlock = some b ∨ iv.ownBlock = some b) -> w'.heap[b]? = wr.heap[b]?) (hs : wr.heap.size ≤ w'.heap.size) (hQ : ∀ b, b < wr.heap.size -> Q b -> Q' b) (hup : ∀ b, w'.heap.size ≤ b -> Q' b) (hq : ¬ Q' ob) : OS w' w' ob Bn Q' l iv kv := by
 obtain ⟨kd, h1, h2⟩ := h.ho
 obtain ⟨S, vs, ho, ht, hS⟩ := h.hk.items
 refine ⟨⟨kd, (hk ob h1.lt (.inl rfl)).trans h1, h2⟩, ⟨own_at h.hk.keys fun b hb => hk b (Js.own_lt h.hk.keys hb).2 (.inr (.inr (.inl hb))), ⟨S, vs, own_at ho fun b hb => hk b (Js.own_lt ho hb).2 (.inr (.inr (.inr hb))), ht.kept fun p hp => World.cell?_of_block (hk _ (hS _ hp).2.1 (.inr (.inl (hS _ hp).1))), fun b hb => ?_⟩, Nat.le_trans h.hk.size hs⟩, h.lt, hq, hup, Kp.refl _ _ _⟩
 obtain ⟨a1, a2, a3⟩ := hS b hb
 exact ⟨hQ b a2 a1, Nat.lt_of_lt_of_le a2 hs, a3⟩
theorem OS.off (h : OS wc wr ob Bn Q l iv kv) {g : Nat} {cs : Array Value} {t : TypeId} (hb : Blk wr g t cs) (h1 : 9 ≠ t) (h2 : 54 ≠ t) : kv.ownBlock ≠ some g /\ iv.ownBlock ≠ some g := by
 obtain ⟨S, vs, ho, _⟩ := h.hk.items
 exact ⟨fun e => own_blk_ne h.hk.keys hb h1 e, fun e => own_blk_ne ho hb h2 e⟩
theorem OS.vt {B0 : Nat} (h : OS wc wr ob Bn Q l iv kv) (hB : B0 ≤ Bn) (hQ : ∀ b, Q b -> B0 ≤ b) (hl : l.length ≤ 4398046511104) : VT wr B0 (tO l) #[.int .i64 6, .int .i64 0, .string ⟨#[]⟩, iv, kv] := VT.obj hB hQ h.hk hl
end
set_option maxHeartbeats 16000000 in
set_option maxRecDepth 100000 in
theorem piece_any (p : Pc) (media : B) (w : World) (hp : p.dig.length = 32) :
  Calls Tryz.prog 50 #[.agg (pcV p).toArray, .string ⟨media.toArray⟩] w fun x w' => ∃ iv kv, x = .returned (.agg #[.int .i64 6, .int .i64 0, .string ⟨#[]⟩, iv, kv]) /\ VT w' w.heap.size (pcT media p) #[.int .i64 6, .int .i64 0, .string ⟨#[]⟩, iv, kv] /\ Below w.heap.size w w' := by
 go_enter Tryz.func50, Tryz.ntmps50
 go_upto_region 3 with fail
 obtain ⟨b0, hb0⟩ : ∃ b0, b0 = w.heap.size := ⟨_, rfl⟩
 obtain ⟨wc, hwc⟩ : ∃ wc, wc = ((w.alloc (.cells (pcV p).toArray 42)).alloc (.cells #[.int .i64 0, .int .i64 0, .string ⟨#[]⟩, .slice none 0 0, .slice none 0 0] 54)).alloc (.cells #[.int .i64 0, .int .i64 0, .string ⟨#[]⟩, .slice none 0 0, .slice none 0 0] 104) := ⟨_, rfl⟩
 have HP0 : Hid (Blk wc b0 42 (pcV p).toArray) := Lib.hid (by rw [hwc, hb0]; exact ((Blk.new _ _ _).alloc _).alloc _)
 have HR1 : Hid (Blk wc (b0 + 1) 54 #[.int .i64 0, .int .i64 0, .string ⟨#[]⟩, .slice none 0 0, .slice none 0 0]) := Lib.hid (by
  have := (Blk.new (w.alloc (.cells (pcV p).toArray 42)) 54 #[.int .i64 0, .int .i64 0, .string ⟨#[]⟩, .slice none 0 0, .slice none 0 0]).alloc (.cells #[.int .i64 0, .int .i64 0, .string ⟨#[]⟩, .slice none 0 0, .slice none 0 0] 104)
  rw [hwc, hb0]; simpa using this)
 have HO2 : Hid (Blk wc (b0 + 2) 104 #[.int .i64 0, .int .i64 0, .string ⟨#[]⟩, .slice none 0 0, .slice none 0 0]) := Lib.hid (by
  have := Blk.new ((w.alloc (.cells (pcV p).toArray 42)).alloc (.cells #[.int .i64 0, .int .i64 0, .string ⟨#[]⟩, .slice none 0 0, .slice none 0 0] 54)) 104 #[.int .i64 0, .int .i64 0, .string ⟨#[]⟩, .slice none 0 0, .slice none 0 0]
  rw [hwc, hb0]; simpa using this)
 have HW0 : Hid (Below b0 w wc /\ wc.heap.size = b0 + 3) := Lib.hid (by rw [hwc, hb0]; exact ⟨(((Below.refl _ _).alloc (Nat.le_refl _) _).alloc (by simp) _).alloc (by simp; omega) _, by simp⟩)
 have HB0 : Hid (b0 = w.heap.size) := Lib.hid hb0
 have HPD := Lib.hid hp
 have HOS := Lib.hid (OS.start (Bn := b0 + 3) (fun b => b0 + 3 ≤ b) (by omega) HO2.out (by omega) (by rw [HW0.out.2]; exact Nat.le_refl _) (fun b hb => by rw [HW0.out.2] at hb; exact hb))
 rw [show w.heap.size + 1 + 1 = w.heap.size + 2 from rfl, <- hwc, <- hb0]
 have hrg : wc.rangeAt b0 0 (Lib.byteCells p.dig) := fun j v hv => by
  rw [Nat.zero_add, HP0.out.cell]
  have hj := (List.getElem?_eq_some_iff.1 hv).1
  show (pcV p).toArray[j]? = some v
  rw [List.getElem?_toArray]
  unfold pcV
  rw [List.getElem?_append_left hj]; exact hv
 have hif : (Tryz.prog.info? 40).map (·.size) = some (Lib.byteCells p.dig).length := by rw [bytes_len, hp]; kernel_rfl
 clear hwc hb0 hp HO2
 go_upto_region 4 with (refine wpList_load_mid rfl 40 _ rfl b0 0 rfl (Lib.byteCells p.dig) _ hrg Tryz.underlying40 rfl hif ?_)
 clear hrg
 refine (Text_any p.dig HPD.out _).mono ?_
 rintro x1 w1 ⟨rfl, hb1⟩
 have HOS1 := Lib.hid (HOS.out.below hb1)
 clear hb1 HOS
 go_upto_region 4 with fail
 refine (text_any (Plain.digText p.dig) _).mono ?_
 rintro x2 w2 ⟨rfl, hb2⟩
 have HOS2 := Lib.hid (HOS1.out.below hb2)
 clear hb2 HOS1
 go_upto_region 4 with fail
 refine (os_put_text HOS2.out (by simp) kDig (Plain.digText p.dig)).mono ?_
 rintro x3 w3 ⟨rfl, _, iv3, kv3, h3⟩
 have HOS3 := Lib.hid h3
 clear h3 HOS2
 go_upto_region 5 with fail
 refine (text_any media _).mono ?_
 rintro x4 w4 ⟨rfl, hb4⟩
 have HOS4 := Lib.hid (HOS3.out.below hb4)
 clear hb4 HOS3
 go_upto_region 5 with fail
 refine (os_put_text HOS4.out (by simp) kMedia media).mono ?_
 rintro x5 w5 ⟨rfl, _, iv5, kv5, h5⟩
 have HOS5 := Lib.hid h5
 clear h5 HOS4
 have z32 : w5.cell? ⟨b0, 32, none⟩ = some (.int .i64 p.size) := by
  have h1 := HOS5.out.blk HP0.out (by omega) (by omega)
  rw [h1.cell]
  unfold pcV
  rw [List.getElem?_toArray, List.getElem?_append_right (by rw [bytes_len, HPD.out]; exact Nat.le_refl _), bytes_len, HPD.out]; rfl
 go_upto_region 6 with fail
 refine (os_put_num HOS5.out (by simp) kSize p.size).mono ?_
 rintro x6 w6 ⟨rfl, _, iv6, kv6, h6⟩
 have HOS6 := Lib.hid h6
 clear h6 HOS5 z32
 obtain ⟨kd, hbo, hk6, _⟩ := HOS6.out.ho
 obtain rfl : kd = 6 := hk6 (by simp)
 have HBO := Lib.hid hbo
 have HBR := Lib.hid (HOS6.out.blk HR1.out (by omega) (by omega))
 have x0 := hbo.cell 0
 have x1 := hbo.cell 1
 have x2 := hbo.cell 2
 have x3 := hbo.cell 3
 have x4 := hbo.cell 4
 clear hbo hk6
 have hi5 : (Tryz.prog.info? 54).map (·.size) = some 5 := by kernel_rfl
 have hone : ([.int .i64 6, .int .i64 0, .string ⟨#[]⟩, iv6, kv6] : List Value).toArray.all (·.oneCell') = true := by
  obtain ⟨A, c, e1⟩ := HOS6.out.hk.form1
  obtain ⟨A', c', e2⟩ := HOS6.out.hk.form2
  rw [e1, e2]; simp [Value.oneCell']
 go_wp2_with (refine wpList_store_row rfl 54 _ _ rfl _ _ rfl rfl 54 _ HBR.out (by simpa using hi5) (by simp) hone ?_)
 obtain ⟨w7, hw7⟩ : ∃ w7, w7 = w6.setRow (b0 + 1) #[.int .i64 6, .int .i64 0, .string ⟨#[]⟩, iv6, kv6] := ⟨_, rfl⟩
 have H7 : Hid (Blk w7 (b0 + 1) 54 #[.int .i64 6, .int .i64 0, .string ⟨#[]⟩, iv6, kv6]) := Lib.hid (by rw [hw7]; exact setRow_same HBR.out _)
 have HF : Hid (VT w7 w.heap.size (pcT media p) #[.int .i64 6, .int .i64 0, .string ⟨#[]⟩, iv6, kv6] /\ Below w.heap.size w w7) := Lib.hid (by
  have h1 := HOS6.out.vt (B0 := b0 + 3) (Nat.le_refl _) (fun _ h => h) (by simp)
  have h2 : VT w7 (b0 + 3) (pcT media p) #[.int .i64 6, .int .i64 0, .string ⟨#[]⟩, iv6, kv6] := h1.kept (fun b hb _ => by rw [hw7]; exact setRow_other w6 (b0 + 1) b _ (by omega)) (by rw [hw7]; simp)
  refine ⟨h2.less (by have := HB0.out; omega), ?_⟩
  have h3 : Below b0 w w6 := HW0.out.1.trans (Kp.below ((HOS6.out.hf.less (by omega)).mono (Nat.le_refl _) (fun k hk e => by omega)))
  rw [<- HB0.out, hw7]
  exact setRow_below h3 (by omega) _)
 rw [<- hw7]
 clear hw7 x0 x1 x2 x3 x4
 (try simp only [Exit.inBlock, Exit.then])
 refine bodyPost_ret (results_cell_row rfl _ _ (b0 + 1) 54 _ (0, 0) _ rfl H7.out Tryz.underlying54 rfl (by simpa using hi5)) rfl ?_
 exact ⟨iv6, kv6, rfl, HF.out⟩
end Js.Cf
end Go.Proofs.YtjohdaobhonioaaGreatDoor
