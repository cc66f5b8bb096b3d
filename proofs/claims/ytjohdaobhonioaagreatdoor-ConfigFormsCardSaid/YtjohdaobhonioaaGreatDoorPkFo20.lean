/-
  Parts of the proof: CfQ.
-/
import Derived.Test.YtjohdaobhonioaaGreatDoorPkFo19
namespace Go.Proofs.YtjohdaobhonioaaGreatDoor
open Go.RowKit
namespace Js.Cf
def LV (w : World) (Bn : Nat) (l : List V) (iv : Value) : Prop := ∃ S vs, w.ownsRow Bn 54 5 iv l.length vs /\ TR encJ w S (ofL l) vs /\ ∀ b, S b -> Bn ≤ b /\ b < w.heap.size /\ iv.ownBlock ≠ some b
theorem LV.nil (w : World) (Bn : Nat) : LV w Bn [] (.slice none 0 0) := ⟨fun _ => False, [], World.ownsRow_nil _ _ _ _, rfl, fun _ h => h.elim⟩
theorem LV.kept {w w' : World} {Bn : Nat} {l : List V} {iv : Value} (h : LV w Bn l iv) (hk : ∀ b, Bn ≤ b -> b < w.heap.size -> w'.heap[b]? = w.heap[b]?) (hs : w.heap.size ≤ w'.heap.size) : LV w' Bn l iv := by
 obtain ⟨S, vs, ho, ht, hS⟩ := h
 exact ⟨S, vs, own_at ho fun b hb => hk b (own_lt ho hb).1 (own_lt ho hb).2, ht.kept fun p hp => World.cell?_of_block (hk _ (hS _ hp).1 (hS _ hp).2.1), fun b hb => ⟨(hS b hb).1, Nat.lt_of_lt_of_le (hS b hb).2.1 hs, (hS b hb).2.2⟩⟩
theorem LV.below {w w' : World} {Bn : Nat} {l : List V} {iv : Value} (h : LV w Bn l iv) (hb : Below w.heap.size w w') : LV w' Bn l iv := h.kept (fun b _ h2 => hb.block b h2) hb.size
theorem LV.form {w : World} {Bn : Nat} {l : List V} {iv : Value} (h : LV w Bn l iv) : ∃ A c, iv = .slice A l.length c := by
 obtain ⟨S, vs, ho, _⟩ := h
 obtain ⟨A, c, e, _⟩ := own_readsN ho
 exact ⟨A, c, e⟩
theorem LV.push {w w' : World} {Bn B1 : Nat} {l : List V} {iv v' : Value} {v : V} {c : List Value} {S : Nat -> Prop} {vs : List Value} (ht : TR encJ w S (ofL l) vs) (hS : ∀ b, S b -> Bn ≤ b /\ b < w.heap.size /\ iv.ownBlock ≠ some b) (hv : VT w B1 v c.toArray) (hB : Bn ≤ B1) (hi : ∀ b, iv.ownBlock = some b -> b < B1)
   (ho' : w'.ownsRow Bn 54 5 v' (l.length + 1) (vs ++ c)) (hg : w.grownBy w' iv.ownBlock) (hl : v'.ownBlock = iv.ownBlock ∨ v'.ownBlock = some w.heap.size) : LV w' Bn (l ++ [v]) v' := by
 obtain ⟨jv, jk, S2, e, h2, hS2⟩ := hv
 have ec : c = jcells v.1 jv jk := by simpa using congrArg Array.toList e
 subst ec
 have hU : ∀ b, (S b ∨ S2 b) -> Bn ≤ b /\ b < w.heap.size /\ iv.ownBlock ≠ some b := fun b hb => by
   rcases hb with hb | hb
   . exact hS b hb
   . obtain ⟨h3, h4⟩ := hS2 b hb
     exact ⟨by omega, h4, fun e => by have := hi b e; omega⟩
 refine ⟨fun b => S b ∨ S2 b, _, by rw [List.length_append]; exact ho', ?_, fun b hb => ?_⟩
 . rw [ofL_snoc]
   exact ((ht.more fun b h => .inl h).app (h2.tr.more fun b h => .inr h)).kept fun p hp => World.cell?_of_block (hg.block _ (hU _ hp).2.1 (fun e => (hU _ hp).2.2 e.symm))
 . obtain ⟨a1, a2, a3⟩ := hU b hb
   refine ⟨a1, Nat.lt_of_lt_of_le a2 hg.size, fun e => ?_⟩
   rcases hl with hl | hl
   . exact a3 (hl.symm.trans e)
   . rw [hl] at e; cases e; omega
theorem VT.one {w : World} {Bn : Nat} {v : V} {c : Array Value} (h : VT w Bn v c) : ∀ u ∈ c.toList, u.oneCell' = true := by
 obtain ⟨iv, kv, S, e, ht, _⟩ := h
 subst e
 exact ht.tr.one
theorem LV.vt {w : World} {Bn : Nat} {l : List V} {iv : Value} (h : LV w Bn l iv) (hl : l.length ≤ 4398046511104) : VT w Bn (tL l) #[.int .i64 5, .int .i64 0, .string ⟨#[]⟩, iv, .slice none 0 0] := by
 obtain ⟨S, vs, ho, ht, hS⟩ := h
 exact VT.list ho ht (fun b hb => ⟨(hS b hb).1, (hS b hb).2.1⟩) hl
theorem os_put_old {wc wr w0 : World} {ob Bn B0 : Nat} {Q : Nat -> Prop} {l : List (B × V)} {iv kv jv jk : Value} {v : V} (h : OS wc wr ob Bn Q l iv kv) (hl : l.length ≤ 1099511627776) (key : B) (hv : VT w0 B0 v (jcells v.1 jv jk).toArray)
   (hQ : ∀ b, B0 ≤ b -> b < w0.heap.size -> Q b /\ b < Bn /\ b ≠ ob /\ wc.heap[b]? = w0.heap[b]?) :
   Calls Tryz.prog 38 #[.pointer (some ⟨ob, 0, none⟩), .string ⟨key.toArray⟩, .agg #[.int .i64 v.1.kind, .int .i64 v.1.num, .string ⟨v.1.text.toArray⟩, jv, jk]] wr fun x w' => x = .returned (.tuple #[]) /\ wr.heap.size ≤ w'.heap.size /\ ∃ iv' kv', OS wc w' ob Bn Q (l ++ [(key, v)]) iv' kv' := by
 obtain ⟨iv2, kv2, S, e, ht, hS⟩ := hv
 have e2 : jv = iv2 /\ jk = kv2 := by simpa [jcells] using e
 obtain ⟨rfl, rfl⟩ := e2
 refine os_put h hl key v _ _ S (ht.kept fun p hp => ?_) (fun b hb => ?_)
 . obtain ⟨h1, h2⟩ := hS _ hp
   obtain ⟨_, h4, h5, h6⟩ := hQ _ h1 h2
   exact World.cell?_of_block ((h.hf.block _ h4 h5).trans h6)
 . obtain ⟨h1, h2⟩ := hS b hb
   obtain ⟨h3, h4, _, _⟩ := hQ b h1 h2
   obtain ⟨S', vs, ho, _⟩ := h.hk.items
   exact ⟨h3, Nat.lt_of_lt_of_le h4 h.size, fun e => by have := (own_lt h.hk.keys e).1; omega, fun e => by have := (own_lt ho e).1; omega⟩
def Fok (v : V) : Prop := Okh v.1 /\ v.2.All Okh
theorem fok_T {s : B} (h : s.length ≤ 4398046511104) : Fok (tT s) := ⟨⟨⟨h, by simp [tT]⟩, (nok_T s).1⟩, trivial⟩
theorem fok_N {z : Int} (h0 : -9223372036854775808 ≤ z) (h1 : z ≤ 9223372036854775807) : Fok (tN z) := ⟨⟨⟨by simp [tN], by simp [tN]⟩, h0, h1⟩, trivial⟩
theorem all_ofL {P : Hd -> Prop} : ∀ {l : List V}, (∀ v ∈ l, P v.1 /\ v.2.All P) -> (ofL l).All P
 | [], _ => trivial
 | p :: r, h => ⟨(h p (by simp)).1, (h p (by simp)).2, all_ofL fun v hv => h v (by simp [hv])⟩
theorem fok_L {l : List V} (h : ∀ v ∈ l, Fok v) : Fok (tL l) := ⟨⟨⟨by simp [tL, plainH], by simp [tL, plainH]⟩, by simp [NumOk, tL, plainH]⟩, all_ofL h⟩
theorem fok_O {l : List (B × V)} (hk : ∀ p ∈ l, p.1.length ≤ 4398046511104) (h : ∀ p ∈ l, Fok p.2) : Fok (tO l) :=
 ⟨⟨⟨by simp [tO], fun x hx => by obtain ⟨p, hp, rfl⟩ := List.mem_map.1 hx; exact hk p hp⟩, by simp [NumOk, tO]⟩, all_ofL fun v hv => by obtain ⟨p, hp, rfl⟩ := List.mem_map.1 hv; exact h p hp⟩
theorem fok_pc {media : B} (hm : media.length ≤ 4398046511104) {p : Pc} (h : PcOk p) : Fok (pcT media p) := by
 refine fok_O (fun q hq => ?_) (fun q hq => ?_)
 . have hk : ∀ k ∈ [kDig, kMedia, kSize], k.length ≤ 4398046511104 := by decide
   simp only [List.mem_cons, List.not_mem_nil, or_false] at hq
   rcases hq with rfl | rfl | rfl <;> exact hk _ (by simp)
 . simp only [List.mem_cons, List.not_mem_nil, or_false] at hq
   rcases hq with rfl | rfl | rfl
   . exact fok_T (by rw [Plain.digText_length, h.1]; decide)
   . exact fok_T hm
   . exact fok_N h.2.1 h.2.2
theorem fok_mf {m : Mf} (ho : MfOk m) : Fok (mfT m) := by
 refine fok_O (fun q hq => ?_) (fun q hq => ?_)
 . have hk : ∀ k ∈ [kSchema, kMedia, kCfg, kLayers], k.length ≤ 4398046511104 := by decide
   simp only [List.mem_cons, List.not_mem_nil, or_false] at hq
   rcases hq with rfl | rfl | rfl | rfl <;> exact hk _ (by simp)
 . simp only [List.mem_cons, List.not_mem_nil, or_false] at hq
   rcases hq with rfl | rfl | rfl | rfl
   . exact fok_N (by decide) (by decide)
   . exact fok_T (by decide)
   . exact fok_pc (by decide) ho.1
   . exact fok_L fun v hv => by obtain ⟨p, hp, rfl⟩ := List.mem_map.1 hv; exact fok_pc (by decide) (ho.2 p hp)
theorem printed_ok {h : Hd} {k : F} (e : (printed h k).2 = 0) : (printed h k).1 = form h k := by
 unfold printed at e ⊢
 split
 . rename_i h1; rw [if_pos h1] at e; exact absurd e h1
 . split
   . rename_i h1 h2; rw [if_neg h1, if_pos h2] at e; cases e
   . rfl
theorem printed_no {h : Hd} {k : F} (e : (printed h k).2 ≠ 0) : (printed h k).1 = [] := by
 unfold printed at e ⊢
 split
 . rfl
 . split
   . rfl
   . rename_i h1 h2; rw [if_neg h1, if_neg h2] at e; exact absurd rfl e
theorem alloc_setRow (w : World) (z cs : Array Value) (t : TypeId) : (w.alloc (.cells z t)).setRow w.heap.size cs = w.alloc (.cells cs t) := by
 unfold World.setRow World.alloc
 simp only
 congr 1
 apply Array.ext_getElem?
 intro k
 simp only [Array.getElem?_modify, Array.getElem?_push]
 by_cases h : k = w.heap.size
 . simp [h]
 . simp [h, Ne.symm h]
def lowB (m : Mf) (j : Nat) : Bool := decide (m.cfg.size < 0) || (m.layers.take j).any fun p => decide (p.size < 0)
theorem lowB_succ {m : Mf} {j : Nat} {x : Pc} (h : m.layers.take (j + 1) = m.layers.take j ++ [x]) : lowB m (j + 1) = (lowB m j || decide (x.size < 0)) := by
 unfold lowB
 rw [h, List.any_append]; simp [Bool.or_assoc]
theorem low_all {m : Mf} {n : Nat} (hn : n = m.layers.length) (hb : ¬ 1024 < n) : wM m = if lowB m n = true then 1 else 0 := by
 unfold wM lowB
 rw [if_neg (by omega), hn, List.take_length]
 simp
def errV : Nat -> Value
 | 0 => .nilIface
 | k + 1 => errnoV (k + 1)
theorem errV_ne {n : Nat} (h : n ≠ 0) : errV n = errnoV n := by
 cases n with
 | zero => exact absurd rfl h
 | succ k => rfl
set_option maxHeartbeats 16000000 in
set_option maxRecDepth 100000 in
theorem manifest_any (m : Mf) (A0 : Option Addr) (c0 : Nat) (w : World) (hm : MfOk m) (hr : Reads w w.heap.size 33 A0 m.layers.length (pcC m.layers)) (hn : m.layers.length ≤ 1099511627776) (hst : St w) :
   Calls Tryz.prog 16 #[.agg (pcV m.cfg ++ [Value.slice A0 m.layers.length c0]).toArray] w fun x w' => x = .returned (.tuple #[.string ⟨(mfP m).1.toArray⟩, errV (mfP m).2]) /\ Below w.heap.size w w' := by
 obtain ⟨j0, hjI, hy0, hy1, hy2⟩ := info_parts infoJson
 obtain ⟨n0, hn0⟩ : ∃ n0, n0 = m.layers.length := ⟨_, rfl⟩
 have HL0 := Lib.hid hn0
 rw [<- hn0] at hr hn ⊢
 have HM := Lib.hid hm
 have HR := Lib.hid hr
 have HST := Lib.hid hst
 have hcl : (pcV m.cfg).length = 33 := pcV_len hm.1.1
 obtain ⟨b0, hb0⟩ : ∃ b0, b0 = w.heap.size := ⟨_, rfl⟩
 obtain ⟨wa, hwa⟩ : ∃ wa, wa = w.alloc (.cells (pcV m.cfg ++ [Value.slice A0 n0 c0]).toArray 45) := ⟨_, rfl⟩
 have HBM : Hid (Blk wa b0 45 (pcV m.cfg ++ [Value.slice A0 n0 c0]).toArray) := Lib.hid (by rw [hwa, hb0]; exact Blk.new _ _ _)
 have HWA : Hid (Below b0 w wa /\ wa.heap.size = b0 + 1) := Lib.hid (by rw [hwa, hb0]; exact ⟨(Below.refl _ _).alloc (Nat.le_refl _) _, by simp⟩)
 have HB0 : Hid (b0 = w.heap.size) := Lib.hid hb0
 have HCL := Lib.hid hcl
 rw [<- hb0] at HR
 clear hm hr hst hn0 hcl
 go_enter Tryz.func16, Tryz.ntmps16
 go_upto_region 1 with fail
 rw [<- hwa, <- hb0]
 clear hwa hb0
 have z33 : wa.cell? ⟨b0, 33, none⟩ = some (.slice A0 n0 c0) := by
   rw [HBM.out.cell, List.getElem?_toArray, List.getElem?_append_right (by rw [HCL.out]; exact Nat.le_refl _), HCL.out]; rfl
 have z32 : wa.cell? ⟨b0, 32, none⟩ = some (.int .i64 m.cfg.size) := by
   rw [HBM.out.cell, List.getElem?_toArray, List.getElem?_append_left (by rw [HCL.out]; decide)]
   unfold pcV
   rw [List.getElem?_append_right (by rw [bytes_len, HM.out.1.1]; exact Nat.le_refl _), bytes_len, HM.out.1.1]; rfl
 by_cases hbig : 1024 < n0
 . have hq : (1024 < (n0 : Int)) = True := eq_true (by omega)
   have HP : Hid (mfP m = ([], 5)) := Lib.hid (by
    have : wM m = 5 := by unfold wM; rw [if_pos (by have := HL0.out; omega)]
    unfold mfP
    rw [this]; rfl)
   go_wp2_with fail
   go_ret2
   rw [HP.out]
   exact ⟨rfl, by rw [<- HB0.out]; exact HWA.out.1⟩
 . have hq : (1024 < (n0 : Int)) = False := eq_false (by omega)
   go_upto_region 4 with fail
   obtain ⟨wb, hwb⟩ : ∃ wb, wb = wa.alloc (.cells #[.int .i64 5, .int .i64 0, .string ⟨#[]⟩, .slice none 0 0, .slice none 0 0] 54) := ⟨_, rfl⟩
   have HBB : Hid (Blk wb b0 45 (pcV m.cfg ++ [Value.slice A0 n0 c0]).toArray) := Lib.hid (by rw [hwb]; exact HBM.out.alloc _)
   have HBL : Hid (Blk wb (b0 + 1) 54 #[.int .i64 5, .int .i64 0, .string ⟨#[]⟩, .slice none 0 0, .slice none 0 0]) := Lib.hid (by rw [hwb, <- HWA.out.2]; exact Blk.new _ _ _)
   have HWB : Hid (Below b0 w wb /\ wb.heap.size = b0 + 2) := Lib.hid (by rw [hwb]; exact ⟨HWA.out.1.alloc (by have := HWA.out.2; omega) _, by simp [HWA.out.2]⟩)
   rw [<- hwb, HWA.out.2]
   clear hwb z33 z32
   have z33 : wb.cell? ⟨b0, 33, none⟩ = some (.slice A0 n0 c0) := by
    rw [HBB.out.cell, List.getElem?_toArray, List.getElem?_append_right (by rw [HCL.out]; exact Nat.le_refl _), HCL.out]; rfl
   have z32 : wb.cell? ⟨b0, 32, none⟩ = some (.int .i64 m.cfg.size) := by
    rw [HBB.out.cell, List.getElem?_toArray, List.getElem?_append_left (by rw [HCL.out]; decide)]
    unfold pcV
    rw [List.getElem?_append_right (by rw [bytes_len, HM.out.1.1]; exact Nat.le_refl _), bytes_len, HM.out.1.1]; rfl
   go_wp2_with fail
   clear z33 z32 HBM HWA
   go_loopw [5, 23] (fun lw i wr => ∃ (j : Nat) (iv : Value), j ≤ n0 /\ i = .int .i64 j /\ lw = .bool (lowB m j) /\ Hid (Blk wr b0 45 (pcV m.cfg ++ [Value.slice A0 n0 c0]).toArray) /\ Hid (Blk wr (b0 + 1) 54 #[.int .i64 5, .int .i64 0, .string ⟨#[]⟩, iv, .slice none 0 0]) /\ Hid (LV wr (b0 + 2) ((m.layers.take j).map (pcT vLayT)) iv) /\ Hid (Below b0 w wr /\ b0 + 2 ≤ wr.heap.size)) (fun _ i _ => n0 - (intOf i).toNat)
   case atStart => exact ⟨0, _, by omega, rfl, by simp [lowB], HBB, HBL, Lib.hid (LV.nil _ _), Lib.hid ⟨HWB.out.1, by rw [HWB.out.2]; exact Nat.le_refl _⟩⟩
   case round =>
    clear HBB HBL HWB
    obtain ⟨j, iv, hj, rfl, rfl, HB2, HB3, HLV, HW⟩ := hrel
    by_cases hlt : j < n0
    . have hlt2 : j < m.layers.length := by have := HL0.out; omega
      obtain ⟨x, hx⟩ : ∃ x, m.layers[j]? = some x := ⟨_, List.getElem?_eq_getElem hlt2⟩
      have HXO : Hid (PcOk x) := Lib.hid (HM.out.2 x (List.mem_of_getElem? hx))
      obtain ⟨ad, rfl, _, hcs⟩ := at_flat (f := pcV) (fun p hp => pcV_len (HM.out.2 p hp).1) (HR.out.below HW.out.1) HL0.out.symm hx
      have HTK : Hid (m.layers.take (j + 1) = m.layers.take j ++ [x] /\ ((m.layers.take j).map (pcT vLayT)).length = j) := Lib.hid ⟨by rw [List.take_succ_eq_append_getElem hlt2]; rw [List.getElem?_eq_getElem hlt2] at hx; injection hx with hx; rw [hx], by rw [List.length_map, List.length_take]; omega⟩
      have hif : (Tryz.prog.info? 42).map (·.size) = some (pcV x).length := by rw [pcV_len HXO.out.1]; kernel_rfl
      have hone : (pcV x).toArray.all (·.oneCell') = true := by unfold pcV; simp [Lib.byteCells, Value.oneCell']
      obtain ⟨lw, hlw⟩ : ∃ lw, lw = lowB m j := ⟨_, rfl⟩
      rw [<- hlw]
      have HLW := Lib.hid hlw
      clear hlw hx
      go_upto_region 8 with (first | refine wpList_load_any rfl 42 _ rfl _ rfl (pcV x) _ hcs Tryz.underlying42 rfl hif ?_ | refine wpList_store_row rfl 42 _ _ rfl _ _ rfl rfl 42 _ (heap_alloc_new _ _) (by simpa using hif) (by simp [pcV_len HXO.out.1]) hone ?_)
      rw [alloc_setRow]
      try simp only [Act.put]
      obtain ⟨wp, hwp⟩ : ∃ wp, wp = wr.alloc (.cells (pcV x).toArray 42) := ⟨_, rfl⟩
      have hb1 : Below wr.heap.size wr wp := by rw [hwp]; exact (Below.refl _ _).alloc (Nat.le_refl _) _
      obtain ⟨bp, hbp⟩ : ∃ bp, bp = wr.heap.size := ⟨_, rfl⟩
      have HBP : Hid (Blk wp bp 42 (pcV x).toArray) := Lib.hid (by rw [hwp, hbp]; exact Blk.new _ _ _)
      have HBX : Hid (wp.heap.size = bp + 1 /\ b0 + 2 ≤ bp) := Lib.hid (by rw [hwp, hbp]; exact ⟨by simp, HW.out.2⟩)
      have HB2p := Lib.hid (HB2.out.below hb1 HB2.out.lt)
      have HB3p := Lib.hid (HB3.out.below hb1 HB3.out.lt)
      have HLVp := Lib.hid (HLV.out.below hb1)
      have HWp : Hid (Below b0 w wp /\ b0 + 2 ≤ wp.heap.size) := Lib.hid ⟨HW.out.1.trans (hb1.mono (by have := HW.out.2; omega)), by have := HBX.out; omega⟩
      rw [<- hwp, <- hbp]
      have z32 : wp.cell? ⟨bp, 32, none⟩ = some (.int .i64 x.size) := by
        rw [HBP.out.cell, List.getElem?_toArray]
        unfold pcV
        rw [List.getElem?_append_right (by rw [bytes_len, HXO.out.1]; exact Nat.le_refl _), bytes_len, HXO.out.1]; rfl
      clear hwp hbp hb1 hcs hif hone HB2 HB3 HLV HW
      go_cut [5] (fun z wx => z = .bool (lw || decide (x.size < 0)) /\ wx = wp)
      case first =>
        cases lw
        . go_wp2_with fail
          go_meet
          exact ⟨by simp, rfl⟩
        . go_wp2_with fail
          go_meet
          exact ⟨by simp, rfl⟩
      case rest =>
        obtain ⟨rfl, rfl⟩ := hcut
        obtain ⟨A1, c1, eiv⟩ := HLVp.out.form
        rw [HTK.out.2] at eiv
        subst eiv
        obtain ⟨S, vs, ho, ht, hS⟩ := HLVp.out
        have HO : Hid (wc.ownsRow (b0 + 2) 54 5 (.slice A1 j c1) j vs) := Lib.hid (by rw [HTK.out.2] at ho; exact ho)
        have HT := Lib.hid ht
        have HS := Lib.hid hS
        clear ho ht hS HLVp z32
        go_upto_region 9 with fail
        have z3 := HB3p.out.cell 3
        have hrp : wc.rangeAt bp 0 (pcV x) := fun jj v hv => by rw [Nat.zero_add, HBP.out.cell]; simpa using hv
        refine wp_region_R (S := (fun wy => wy.cell? ⟨b0 + 1, 3, none⟩ = some (.slice A1 j c1) /\ wy.rangeAt bp 0 (pcV x))) 7 (by kernel_rfl) ⟨z3, hrp⟩ (fun hHeld => ?_)
        refine tkR 0 (hS := hHeld) (h := ?_)
        try simp only [Act.put, List.setIfInBounds_toArray, List.set_cons_zero, List.set_cons_succ]
        refine tkR 1 (hS := hHeld) (h := ?_)
        try simp only [Act.put, List.setIfInBounds_toArray, List.set_cons_zero, List.set_cons_succ]
        refine wpAnyR_take (i := 2) (by kernel_rfl) (by simp only [List.getElem?_toArray, List.getElem?_cons_succ, List.getElem?_cons_zero]; rfl) (by kernel_rfl) (by kernel_rfl) (by kernel_rfl) (by exact fun _ _ _ h => h) (yieldsIf_load_mid (by rfl) _ _ rfl _ _ rfl (pcV x) _ (fun _ h => h.2) Tryz.underlying42 rfl (by rw [pcV_len HXO.out.1]; kernel_rfl)) hHeld ?_
        try simp only [Act.put, List.setIfInBounds_toArray, List.set_cons_zero, List.set_cons_succ]
        refine wpAnyR_ready (rs := [3]) (by kernel_rfl) (by simp) ?_
        refine rdyR (fun K hK => ?_) AllReadyR.nil
        rw [if_pos (by rfl)]
        go_simp
        refine (piece_any x vLayT _ HXO.out.1).mono ?_
        rintro y w1 ⟨iv1, kv1, rfl, hv, hb1⟩
        have hv : VT w1 wc.heap.size (pcT vLayT x) #[.int .i64 6, .int .i64 0, .string ⟨#[]⟩, iv1, kv1] := hv
        have hb1 : Below wc.heap.size wc w1 := ((Below.refl wc.heap.size wc).drew).trans hb1
        have HV := Lib.hid hv
        have HB21 := Lib.hid (HB2p.out.below hb1 HB2p.out.lt)
        have HB31 := Lib.hid (HB3p.out.below hb1 HB3p.out.lt)
        have HBP1 := Lib.hid (HBP.out.below hb1 HBP.out.lt)
        have HO1 := Lib.hid (own_kept HO.out hb1)
        have HOL : Hid (∀ b, (Value.slice A1 j c1).ownBlock = some b -> b < wc.heap.size) := Lib.hid fun b e => (own_lt HO.out e).2
        have HT1 := Lib.hid (HT.out.kept (w' := w1) fun p hp => hb1.cell (HS.out _ hp).2.1)
        have HS1 : Hid (∀ b, S b -> b0 + 2 ≤ b /\ b < w1.heap.size /\ (Value.slice A1 j c1).ownBlock ≠ some b) := Lib.hid fun b hb => ⟨(HS.out b hb).1, Nat.lt_of_lt_of_le (HS.out b hb).2.1 hb1.size, (HS.out b hb).2.2⟩
        have HW1 : Hid (Below b0 w w1 /\ b0 + 2 ≤ w1.heap.size /\ b0 + 2 ≤ wc.heap.size) := Lib.hid ⟨HWp.out.1.trans (hb1.mono (by have := HWp.out.2; omega)), by have := hb1.size; have := HWp.out.2; omega, HWp.out.2⟩
        have hrk : ∀ wy, Blk wy bp 42 (pcV x).toArray -> wy.rangeAt bp 0 (pcV x) := fun wy h jj v hv => by rw [Nat.zero_add, h.cell]; simpa using hv
        have HRK := Lib.hid hrk
        refine hK.out _ _ (fun _ => ⟨HB31.out.cell 3, HRK.out _ HBP1.out⟩) (fun _ => ?_)
        clear hK hv hb1 z3 hrp hrk HB2p HB3p HBP HO HT HS HWp hHeld
        try simp only [Act.put, List.setIfInBounds_toArray, List.set_cons_zero, List.set_cons_succ]
        refine oneR 4 (fun K hK => ?_)
        rw [if_pos (by rfl)]
        go_simp
        obtain ⟨wq, hwq⟩ : ∃ wq, wq = w1.alloc (.cells #[.int .i64 6, .int .i64 0, .string ⟨#[]⟩, iv1, kv1] 54) := ⟨_, rfl⟩
        have hbq : Below w1.heap.size w1 wq := by rw [hwq]; exact (Below.refl _ _).alloc (Nat.le_refl _) _
        have HG : Hid (wq.heap[w1.heap.size]? = some (.cells #[.int .i64 6, .int .i64 0, .string ⟨#[]⟩, iv1, kv1] 54) /\ wq.heap.size = w1.heap.size + 1) := Lib.hid (by rw [hwq]; exact ⟨heap_alloc_new _ _, by simp⟩)
        have HB2q := Lib.hid (HB21.out.below hbq HB21.out.lt)
        have HB3q := Lib.hid (HB31.out.below hbq HB31.out.lt)
        have HBPq := Lib.hid (HBP1.out.below hbq HBP1.out.lt)
        have HOq := Lib.hid (own_kept HO1.out hbq)
        have HTq := Lib.hid (HT1.out.kept (w' := wq) fun p hp => hbq.cell (HS1.out _ hp).2.1)
        have HSq : Hid (∀ b, S b -> b0 + 2 ≤ b /\ b < wq.heap.size /\ (Value.slice A1 j c1).ownBlock ≠ some b) := Lib.hid fun b hb => ⟨(HS1.out b hb).1, Nat.lt_of_lt_of_le (HS1.out b hb).2.1 hbq.size, (HS1.out b hb).2.2⟩
        have HVq := Lib.hid (HV.out.below hbq)
        have HWq : Hid (Below b0 w wq /\ b0 + 2 ≤ wq.heap.size) := Lib.hid ⟨HW1.out.1.trans (hbq.mono (by have := HW1.out.2.1; omega)), by have := hbq.size; have := HW1.out.2.1; omega⟩
        refine hK.out _ _ (fun _ => by (try rw [<- hwq]); exact ⟨HB3q.out.cell 3, HRK.out _ HBPq.out⟩) (fun _ => ?_)
        clear hK
        (try rw [<- hwq])
        clear hwq hbq HB21 HB31 HBP1 HO1 HT1 HS1 HV
        try simp only [Act.put, List.setIfInBounds_toArray, List.set_cons_zero, List.set_cons_succ]
        refine oneR 5 (fun K hK => ?_)
        rw [if_pos (by rfl)]
        refine wp_append_any (P := Tryz.prog) _ _ _ 52 rfl (b0 + 2) 54 j0 _ 5 80 Tryz.underlying52 hjI hy0 hy1 hy2 rfl (by decide) (.slice A1 j c1) j vs rfl HOq.out wq.heap.size (some ⟨w1.heap.size, 0, none⟩) 1 1 [.int .i64 6, .int .i64 0, .string ⟨#[]⟩, iv1, kv1] rfl (Reads.of_block HG.out.1 rfl) HVq.out.one (by unfold maxLen; omega) (by omega) HWq.out.2 ?_
        intro v2 w2 g1 g2 g3
        obtain ⟨A2, c2, e2, _⟩ := own_readsN g1
        subst e2
        have HLV2 : Hid (LV w2 (b0 + 2) ((m.layers.take (j + 1)).map (pcT vLayT)) (.slice A2 (j + 1) c2)) := Lib.hid (by
          rw [HTK.out.1, List.map_append, List.map_cons, List.map_nil]
          exact LV.push HTq.out HSq.out HVq.out HW1.out.2.2 HOL.out (by rw [HTK.out.2]; exact g1) g2 g3)
        have HB22 := Lib.hid (HB2q.out.grown g2 (fun e => by have := (own_lt HOq.out e.symm).1; omega))
        have HB32 := Lib.hid (HB3q.out.grown g2 (fun e => by have := (own_lt HOq.out e.symm).1; omega))
        have HBP2 : Hid (Blk w2 bp 42 (pcV x).toArray) := Lib.hid (HBPq.out.grown g2 (fun e => own_blk_ne HOq.out HBPq.out (by decide) e.symm))
        have HW2 : Hid (Below b0 w w2 /\ b0 + 2 ≤ w2.heap.size) := Lib.hid ⟨HWq.out.1.grown g2 (by have := HWq.out.2; omega) (fun g e => by have := (own_lt HOq.out e).1; omega), Nat.le_trans HWq.out.2 g2.size⟩
        refine hK.out _ _ (fun _ => ⟨HB32.out.cell 3, HRK.out _ HBP2.out⟩) (fun _ => ?_)
        clear hK g1 g2 g3
        try simp only [Act.put, List.setIfInBounds_toArray, List.set_cons_zero, List.set_cons_succ]
        have k3 := HB32.out.cell 3
        have hSx : w2.cell? ⟨b0 + 1, 3, none⟩ = some (.slice A1 j c1) /\ w2.rangeAt bp 0 (pcV x) := ⟨HB32.out.cell 3, HRK.out _ HBP2.out⟩
        refine tkR 6 (hS := hSx) (h := ?_)
        try simp only [Act.put, List.setIfInBounds_toArray, List.set_cons_zero, List.set_cons_succ]
        refine oneR 7 (fun K hK => ?_)
        rw [if_pos (by rfl)]
        have l3 := HB32.out.frozen 3
        go_simp
        refine hK.out _ _ (fun h => absurd rfl h) (fun _ => ?_)
        clear hK k3 l3 hSx
        try simp only [Act.put]
        refine wpAnyR_done (by kernel_rfl) ?_ _
        go_wp2_with fail
        refine ⟨⟨j + 1, .slice A2 (j + 1) c2, by omega, by push_cast; rfl, by rw [lowB_succ HTK.out.1, HLW.out], Lib.hid (HB22.out.far (by show b0 ≠ b0 + 1; omega) _), Lib.hid (HB32.out.set_ 3 _), Lib.hid (HLV2.out.kept (fun b hb _ => Below.heap_setCell w2 ⟨b0 + 1, 3, none⟩ _ b (by show b ≠ b0 + 1; omega)) (by simp)), Lib.hid ⟨Below.setCell HW2.out.1 (by show b0 ≤ b0 + 1; omega) _, by simp; exact HW2.out.2⟩⟩, ?_⟩
        show n0 - ((j : Int) + 1).toNat < n0 - ((j : Int)).toNat
        omega
    . obtain rfl : j = n0 := by omega
      have HWM := Lib.hid (low_all HL0.out hbig)
      obtain ⟨lw, hlw⟩ : ∃ lw, lw = lowB m j := ⟨_, rfl⟩
      rw [<- hlw] at HWM ⊢
      clear hlw
      cases lw
      . have HW0 : Hid (wM m = 0) := Lib.hid (by rw [HWM.out]; rfl)
        have htk : m.layers.take j = m.layers := by rw [HL0.out, List.take_length]
        obtain ⟨A1, c1, eiv⟩ := HLV.out.form
        rw [show ((m.layers.take j).map (pcT vLayT)).length = j by rw [htk, List.length_map]; exact HL0.out.symm] at eiv
        subst eiv
        have HLT : Hid (VT wr (b0 + 2) (tL (m.layers.map (pcT vLayT))) (jcells (tL (m.layers.map (pcT vLayT))).1 (.slice A1 j c1) (.slice none 0 0)).toArray) := Lib.hid (by
          have h1 := HLV.out.vt (by rw [List.length_map, List.length_take]; omega)
          rw [htk] at h1
          exact h1)
        go_upto_region 15 with fail
        obtain ⟨bo, hbo⟩ : ∃ bo, bo = wr.heap.size := ⟨_, rfl⟩
        obtain ⟨wo, hwo⟩ : ∃ wo, wo = wr.alloc (.cells #[.int .i64 0, .int .i64 0, .string ⟨#[]⟩, .slice none 0 0, .slice none 0 0] 104) := ⟨_, rfl⟩
        have HBO : Hid (Blk wo bo 104 #[.int .i64 0, .int .i64 0, .string ⟨#[]⟩, .slice none 0 0, .slice none 0 0]) := Lib.hid (by rw [hwo, hbo]; exact Blk.new _ _ _)
        have HWO : Hid (wo.heap.size = bo + 1 /\ b0 + 2 ≤ bo /\ bo = wr.heap.size /\ Below b0 w wo) := Lib.hid (by rw [hwo, hbo]; exact ⟨by simp, HW.out.2, rfl, HW.out.1.alloc (by have := HW.out.2; omega) _⟩)
        have HOLD : Hid (∀ b, b < wr.heap.size -> wo.heap[b]? = wr.heap[b]?) := Lib.hid fun b hb => by rw [hwo]; exact Below.heap_alloc wr _ b hb
        have HB2o : Hid (Blk wo b0 45 (pcV m.cfg ++ [Value.slice A0 j c0]).toArray) := Lib.hid (by rw [hwo]; exact HB2.out.alloc _)
        have HB3o : Hid (Blk wo (b0 + 1) 54 #[.int .i64 5, .int .i64 0, .string ⟨#[]⟩, .slice A1 j c1, .slice none 0 0]) := Lib.hid (by rw [hwo]; exact HB3.out.alloc _)
        have HO0 := Lib.hid (OS.start (Bn := bo + 1) (fun b => b0 + 2 ≤ b /\ b ≠ bo) (by intro h; omega) HBO.out (by omega) (by rw [HWO.out.1]; exact Nat.le_refl _) (fun b hb => by have := HWO.out; omega))
        rw [<- hwo, <- hbo]
        clear hwo hbo HB2 HB3 HLV HW htk HBO
        go_upto_region 16 with fail
        refine (os_put_num HO0.out (by simp) kSchema 2).mono ?_
        rintro x1 w1 ⟨rfl, _, iv1, kv1, h1⟩
        have HO1 := Lib.hid h1
        clear h1 HO0
        go_upto_region 17 with fail
        refine (text_any vMan _).mono ?_
        rintro x2 w2 ⟨rfl, hb2⟩
        have HO2 := Lib.hid (HO1.out.below hb2)
        clear hb2 HO1
        go_upto_region 17 with fail
        refine (os_put_text HO2.out (by simp) kMedia vMan).mono ?_
        rintro x3 w3 ⟨rfl, _, iv3, kv3, h3⟩
        have HO3 := Lib.hid h3
        clear h3 HO2
        have hrg : w3.rangeAt b0 0 (pcV m.cfg) := fun jj v hv => by
          have h1 := HO3.out.blk HB2o.out (by have := HWO.out; omega) (by have := HWO.out; omega)
          rw [Nat.zero_add, h1.cell]
          have hj := (List.getElem?_eq_some_iff.1 hv).1
          rw [List.getElem?_toArray, List.getElem?_append_left hj]; exact hv
        have hif : (Tryz.prog.info? 42).map (·.size) = some (pcV m.cfg).length := by rw [HCL.out]; kernel_rfl
        go_upto_region 18 with (refine wpList_load_mid rfl 42 _ rfl b0 0 rfl (pcV m.cfg) _ hrg Tryz.underlying42 rfl hif ?_)
        clear hrg hif
        refine (piece_any m.cfg vCfgT _ HM.out.1.1).mono ?_
        rintro x4 w4 ⟨jv4, jk4, rfl, hv4, hb4⟩
        have HO4 := Lib.hid (HO3.out.below hb4)
        have HV4 : Hid (VT w4 w3.heap.size (pcT vCfgT m.cfg) (jcells (pcT vCfgT m.cfg).1 jv4 jk4).toArray) := Lib.hid hv4
        clear hb4 hv4
        go_upto_region 18 with fail
        refine (os_put_made HO3.out HO4.out (by simp) kCfg HV4.out).mono ?_
        rintro x5 w5 ⟨rfl, _, iv5, kv5, h5⟩
        have HO5 := Lib.hid h5
        clear h5 HO4 HO3 HV4
        have HB35 := Lib.hid (HO5.out.blk HB3o.out (by have := HWO.out; omega) (by have := HWO.out; omega))
        have x0 := HB35.out.cell 0
        have x1 := HB35.out.cell 1
        have x2 := HB35.out.cell 2
        have x3 := HB35.out.cell 3
        have x4 := HB35.out.cell 4
        go_upto_region 19 with fail
        have HPO := Lib.hid (os_put_old (v := tL (m.layers.map (pcT vLayT))) (jv := .slice A1 j c1) (jk := .slice none 0 0) HO5.out (by simp) kLayers HLT.out (fun b h1 h2 => ⟨⟨h1, by have := HWO.out; omega⟩, by have := HWO.out; omega, by have := HWO.out; omega, HOLD.out b h2⟩))
        clear x0 x1 x2 x3 x4
        refine HPO.out.mono ?_
        clear HPO
        rintro x6 w6 ⟨rfl, _, iv6, kv6, h6⟩
        have HO6 := Lib.hid h6
        clear h6 HO5 HB35
        obtain ⟨kd, hbo, hk6, _⟩ := HO6.out.ho
        obtain rfl : kd = 6 := hk6 (by simp)
        have x0 := hbo.cell 0
        have x1 := hbo.cell 1
        have x2 := hbo.cell 2
        have x3 := hbo.cell 3
        have x4 := hbo.cell 4
        clear hbo hk6
        have HW6 : Hid (Below b0 w w6) := Lib.hid (HWO.out.2.2.2.trans (Kp.below ((HO6.out.hf.less (by have := HWO.out; omega)).mono (Nat.le_refl _) (fun k hk e => by have := HWO.out; omega))))
        have HVT : Hid (VT w6 (b0 + 2) (mfT m) #[.int .i64 6, .int .i64 0, .string ⟨#[]⟩, iv6, kv6]) := Lib.hid (HO6.out.vt (by have := HWO.out; omega) (fun b h => h.1) (by simp))
        obtain ⟨jv, jk, S, e, htv, hS⟩ := HVT.out
        have e2 : iv6 = jv /\ kv6 = jk := by simpa [jcells, mfT, tO] using e
        obtain ⟨rfl, rfl⟩ := e2
        have HPR := Lib.hid (print_any (mfT m).1 (mfT m).2 iv6 kv6 S w6 (fok_mf HM.out).1 (fok_mf HM.out).2 htv (fun b hb => (hS b hb).2) (HST.out.below (by rw [<- HB0.out]; exact HW6.out)) (fun _ => by
          show (frm (mfT m)).length ≤ _
          rw [frm_mf]
          exact Nat.le_trans (mfB_len (wM_zero HW0.out).1 HM.out) (by decide)))
        clear e htv hS
        go_wp2_with fail
        refine HPR.out.mono ?_
        rintro x7 w7 ⟨hb7, hx7⟩
        have HB7 : Hid (Below w.heap.size w w7) := Lib.hid (by rw [<- HB0.out]; exact HW6.out.trans (hb7.mono (by have := HO6.out.size; have := HWO.out; omega)))
        have HMP : Hid (mfP m = printed (mfT m).1 (mfT m).2) := Lib.hid (by unfold mfP; rw [if_neg (by rw [HW0.out]; simp)])
        rcases hx7 with ⟨h0, rfl⟩ | ⟨h0, rfl⟩
        . go_wp2_with fail
          go_ret2
          rw [HMP.out, printed_ok h0, h0]
          exact ⟨rfl, HB7.out⟩
        . go_wp2_with fail
          go_ret2
          rw [HMP.out, printed_no h0, errV_ne h0]
          exact ⟨rfl, HB7.out⟩
      . have HP : Hid (mfP m = ([], 1)) := Lib.hid (by
          have : wM m = 1 := by rw [HWM.out]; rfl
          unfold mfP
          rw [this]; rfl)
        go_wp2_with fail
        go_ret2
        rw [HP.out]
        exact ⟨rfl, by rw [<- HB0.out]; exact HW.out.1⟩
end Js.Cf
end Go.Proofs.YtjohdaobhonioaaGreatDoor
