/-
  Parts of the proof: CfCo.
-/
import Derived.Test.YtjohdaobhonioaaGreatDoorPkFo32
import Derived.Test.YtjohdaobhonioaaGreatDoorPkFo20
import Derived.Test.YtjohdaobhonioaaGreatDoorPkFo26
namespace Go.Proofs.YtjohdaobhonioaaGreatDoor
open Go.RowKit
namespace Js.Cf
theorem cat3 (a b c : B) : (⟨a.toArray⟩ ++ ⟨b.toArray⟩ ++ ⟨c.toArray⟩ : ByteArray) = ⟨(a ++ (b ++ c)).toArray⟩ := by
 apply ByteArray.ext
 simp [ByteArray.data_append]
theorem os_made {wc0 w0 wr : World} {ob Bn : Nat} {Q : Nat -> Prop} {l0 : List (B × V)} {iv kv jv jk : Value} {v : V} (h0 : OS wc0 w0 ob Bn Q l0 iv kv) (hv : VT wr w0.heap.size v (jcells v.1 jv jk).toArray) :
  ∃ S2, TV encJ wr S2 v.1 v.2 (jcells v.1 jv jk) /\ ∀ b, S2 b -> Q b /\ b < wr.heap.size /\ kv.ownBlock ≠ some b /\ iv.ownBlock ≠ some b := by
 obtain ⟨iv2, kv2, S, e, ht, hS⟩ := hv
 have e2 : jv = iv2 /\ jk = kv2 := by simpa [jcells] using e
 obtain ⟨rfl, rfl⟩ := e2
 refine ⟨S, ht, fun b hb => ?_⟩
 obtain ⟨h1, h2⟩ := hS b hb
 exact ⟨h0.up b h1, h2, fun e => by have := h0.own_lt.1 b e; omega, fun e => by have := h0.own_lt.2 b e; omega⟩
theorem os_some_made {wc0 w0 wc wr : World} {ob Bn : Nat} {Q : Nat -> Prop} {l0 l : List (B × V)} {iv kv jv jk : Value} {v : V} (h0 : OS wc0 w0 ob Bn Q l0 iv kv) (h : OS wc wr ob Bn Q l iv kv) (hl : l.length ≤ 1099511627776) (key : B) (hv : VT wr w0.heap.size v (jcells v.1 jv jk).toArray) :
  Calls Tryz.prog 137 #[.pointer (some ⟨ob, 0, none⟩), .string ⟨key.toArray⟩, .agg #[.int .i64 v.1.kind, .int .i64 v.1.num, .string ⟨v.1.text.toArray⟩, jv, jk]] wr fun x w' => x = .returned (.tuple #[]) /\ wr.heap.size ≤ w'.heap.size /\ ∃ iv' kv', OS wc w' ob Bn Q (l ++ if 0 < v.2.len ∨ v.1.text ≠ [] then [(key, v)] else []) iv' kv' /\
   Kp wr.heap.size (fun b => b = ob ∨ iv.ownBlock = some b ∨ kv.ownBlock = some b) wr w' := by
 obtain ⟨S2, h1, h2⟩ := os_made h0 hv
 exact os_someK h hl key v jv jk S2 h1 h2
theorem os_some_text {wc wr : World} {ob Bn : Nat} {Q : Nat -> Prop} {l : List (B × V)} {iv kv : Value} (h : OS wc wr ob Bn Q l iv kv) (hl : l.length ≤ 1099511627776) (key s : B) :
  Calls Tryz.prog 137 #[.pointer (some ⟨ob, 0, none⟩), .string ⟨key.toArray⟩, .agg #[.int .i64 4, .int .i64 0, .string ⟨s.toArray⟩, .slice none 0 0, .slice none 0 0]] wr fun x w' => x = .returned (.tuple #[]) /\ wr.heap.size ≤ w'.heap.size /\ ∃ iv' kv', OS wc w' ob Bn Q (l ++ if s = [] then [] else [(key, tT s)]) iv' kv' /\
   Kp wr.heap.size (fun b => b = ob ∨ iv.ownBlock = some b ∨ kv.ownBlock = some b) wr w' := by
 have h1 := os_someK h hl key (tT s) (.slice none 0 0) (.slice none 0 0) (fun _ => False) ⟨none, 0, none, 0, [], rfl, by simp [tT, F.len], ⟨by simp [tT], fun h => by cases h⟩, RdS.none_, rfl, RdS.none_⟩ (fun b h => h.elim)
 have e : (if 0 < (tT s).2.len ∨ (tT s).1.text ≠ [] then [(key, tT s)] else []) = if s = [] then [] else [(key, tT s)] := by
  by_cases hs : s = [] <;> simp [tT, F.len, hs]
 rw [e] at h1
 exact h1
def vO (l : List (B × V)) : V := if l = [] then tZ else tO l
theorem OS.vo {wc wr : World} {ob Bn B0 : Nat} {Q : Nat -> Prop} {l : List (B × V)} {iv kv : Value} (h : OS wc wr ob Bn Q l iv kv) (hB : B0 ≤ Bn) (hQ : ∀ b, Q b -> B0 ≤ b) (hl : l.length ≤ 4398046511104) :
   Blk wr ob 104 #[.int .i64 (vO l).1.kind, .int .i64 (vO l).1.num, .string ⟨(vO l).1.text.toArray⟩, iv, kv] /\ VT wr B0 (vO l) (jcells (vO l).1 iv kv).toArray := by
 obtain ⟨kd, hb, h6, h0⟩ := h.ho
 unfold vO
 by_cases hn : l = []
 . subst hn
   obtain rfl : kd = 0 := h0 rfl
   rw [if_pos rfl]
   refine ⟨hb, ?_⟩
   obtain ⟨S, vs, ho, hp, hS⟩ := h.hk.items
   have hk := h.hk.keys
   obtain ⟨A1, c1, e1, r1⟩ := RdS.of_own hk
   obtain ⟨A2, c2, e2, r2⟩ := RdS.of_own ho
   refine ⟨iv, kv, fun b => S b ∨ (kv.ownBlock = some b ∨ iv.ownBlock = some b), rfl, ⟨A2, c2, A1, c1, vs, ?_, ?_, ⟨?_, fun h => by cases h⟩, r2.more fun b hb => .inr (.inr hb), hp.more fun b hb => .inl hb, r1.more fun b hb => .inr (.inl hb)⟩, fun b hb => ?_⟩
   . rw [e1, e2]; rfl
   . exact Nat.zero_le _
   . exact Nat.zero_le _
   . rcases hb with hb | hb | hb
     . exact ⟨hQ b (hS b hb).1, (hS b hb).2.1⟩
     . exact ⟨Nat.le_trans hB (Js.own_lt hk hb).1, (Js.own_lt hk hb).2⟩
     . exact ⟨Nat.le_trans hB (Js.own_lt ho hb).1, (Js.own_lt ho hb).2⟩
 . obtain rfl : kd = 6 := h6 hn
   rw [if_neg hn]
   exact ⟨hb, h.vt hB hQ hl⟩
theorem some_vO (key : B) (l : List (B × V)) : (if 0 < (vO l).2.len ∨ (vO l).1.text ≠ [] then [(key, vO l)] else []) = if l = [] then [] else [(key, tO l)] := by
 unfold vO
 by_cases hl : l = []
 . subst hl; rfl
 . have : 0 < (ofL (l.map Prod.snd)).len := by rw [ofL_len, List.length_map]; exact List.length_pos_iff.2 hl
   rw [if_neg hl, if_neg hl, if_pos (.inl this)]
theorem some_texts (key : B) (ts : List B) : (if 0 < (tTexts ts).2.len ∨ (tTexts ts).1.text ≠ [] then [(key, tTexts ts)] else []) = if ts = [] then [] else [(key, tTexts ts)] := by
 by_cases hl : ts = []
 . subst hl; rfl
 . have : 0 < (ofL (ts.map tT)).len := by rw [ofL_len, List.length_map]; exact List.length_pos_iff.2 hl
   rw [if_neg hl, if_pos (.inl this)]
theorem os_put_obj {wc wr : World} {ob Bn : Nat} {Q : Nat -> Prop} {l : List (B × V)} {iv kv : Value} (h : OS wc wr ob Bn Q l iv kv) (hl : l.length ≤ 1099511627776) (key : B) :
  Calls Tryz.prog 38 #[.pointer (some ⟨ob, 0, none⟩), .string ⟨key.toArray⟩, .agg #[.int .i64 6, .int .i64 0, .string ⟨#[]⟩, .slice none 0 0, .slice none 0 0]] wr fun x w' => x = .returned (.tuple #[]) /\ wr.heap.size ≤ w'.heap.size /\ ∃ iv' kv', OS wc w' ob Bn Q (l ++ [(key, tO [])]) iv' kv' :=
 os_put h hl key (tO []) _ _ (fun _ => False) ⟨none, 0, none, 0, [], rfl, by simp [tO, F.len, ofL], ⟨by simp [tO], fun h => by simp [tO]⟩, RdS.none_, rfl, RdS.none_⟩ (fun b h => h.elim)
theorem os_put_textK {wc wr : World} {ob Bn : Nat} {Q : Nat -> Prop} {l : List (B × V)} {iv kv : Value} (h : OS wc wr ob Bn Q l iv kv) (hl : l.length ≤ 1099511627776) (key s : B) :
  Calls Tryz.prog 38 #[.pointer (some ⟨ob, 0, none⟩), .string ⟨key.toArray⟩, .agg #[.int .i64 4, .int .i64 0, .string ⟨s.toArray⟩, .slice none 0 0, .slice none 0 0]] wr fun x w' => x = .returned (.tuple #[]) /\ wr.heap.size ≤ w'.heap.size /\ ∃ iv' kv', OS wc w' ob Bn Q (l ++ [(key, tT s)]) iv' kv' /\
   Kp wr.heap.size (fun b => b = ob ∨ iv.ownBlock = some b ∨ kv.ownBlock = some b) wr w' :=
 os_putK h hl key (tT s) _ _ (fun _ => False) ⟨none, 0, none, 0, [], rfl, by simp [tT, F.len], ⟨by simp [tT], fun h => by cases h⟩, RdS.none_, rfl, RdS.none_⟩ (fun b h => h.elim)
set_option maxHeartbeats 16000000 in
set_option maxRecDepth 100000 in
theorem config_any (c : Cfg) (A1 A2 A3 A4 A5 : Option Addr) (c1 c2 c3 c4 c5 : Nat) (w : World) (r1 : Reads w w.heap.size 2 A1 c.env.length (px c.env)) (r2 : Reads w w.heap.size 1 A2 c.ports.length (tx c.ports)) (r3 : Reads w w.heap.size 2 A3 c.labels.length (px c.labels)) (r4 : Reads w w.heap.size 1 A4 c.cmd.length (tx c.cmd)) (r5 : Reads w w.heap.size 1 A5 c.entry.length (tx c.entry))
  (hl1 : c.env.length ≤ 1099511627776) (hl2 : c.ports.length ≤ 1099511627776) (hl3 : c.labels.length ≤ 1099511627776) (hl4 : c.cmd.length ≤ 1099511627776) (hl5 : c.entry.length ≤ 1099511627776) (hpx : PxLe 1099511627776 c.env) :
  Calls Tryz.prog 41 #[.agg #[.slice A1 c.env.length c1, .string ⟨c.dir.toArray⟩, .string ⟨c.user.toArray⟩, .slice A2 c.ports.length c2, .slice A3 c.labels.length c3, .slice A4 c.cmd.length c4, .slice A5 c.entry.length c5]] w fun x w' =>
    ∃ iv kv, x = .returned (.agg #[.int .i64 6, .int .i64 0, .string ⟨#[]⟩, iv, kv]) /\ VT w' w.heap.size (cfgT c) #[.int .i64 6, .int .i64 0, .string ⟨#[]⟩, iv, kv] /\ Below w.heap.size w w' := by
 obtain ⟨i0, hi, hz0, hz1, hz2⟩ := info_parts infoStr
 obtain ⟨env, dir, usr, ports, labels, cmd, entry⟩ := c
 have HPX := Lib.hid hpx
 clear hpx
 simp only at HPX r1 r2 r3 r4 r5 hl1 hl2 hl3 hl4 hl5 ⊢
 obtain ⟨n1, hn1⟩ : ∃ n1, n1 = env.length := ⟨_, rfl⟩
 obtain ⟨n2, hn2⟩ : ∃ n2, n2 = ports.length := ⟨_, rfl⟩
 obtain ⟨n3, hn3⟩ : ∃ n3, n3 = labels.length := ⟨_, rfl⟩
 obtain ⟨n4, hn4⟩ : ∃ n4, n4 = cmd.length := ⟨_, rfl⟩
 obtain ⟨n5, hn5⟩ : ∃ n5, n5 = entry.length := ⟨_, rfl⟩
 have HN : Hid (n1 = env.length /\ n2 = ports.length /\ n3 = labels.length /\ n4 = cmd.length /\ n5 = entry.length) := Lib.hid ⟨hn1, hn2, hn3, hn4, hn5⟩
 have HR := Lib.hid (And.intro r1 (And.intro r2 (And.intro r3 (And.intro r4 r5))))
 rw [<- hn1] at hl1
 rw [<- hn2] at hl2
 rw [<- hn3] at hl3
 rw [<- hn4] at hl4
 rw [<- hn5] at hl5
 rw [<- hn1, <- hn2, <- hn3, <- hn4, <- hn5] at HR
 rw [<- hn1, <- hn2, <- hn3, <- hn4, <- hn5]
 clear hn1 hn2 hn3 hn4 hn5 r1 r2 r3 r4 r5
 obtain ⟨b0, hb0⟩ : ∃ b0, b0 = w.heap.size := ⟨_, rfl⟩
 obtain ⟨wc, hwc⟩ : ∃ wc, wc = ((w.alloc (.cells #[.slice A1 n1 c1, .string ⟨dir.toArray⟩, .string ⟨usr.toArray⟩, .slice A2 n2 c2, .slice A3 n3 c3, .slice A4 n4 c4, .slice A5 n5 c5] 25)).alloc (.cells #[.int .i64 0, .int .i64 0, .string ⟨#[]⟩, .slice none 0 0, .slice none 0 0] 54)).alloc (.cells #[.int .i64 0, .int .i64 0, .string ⟨#[]⟩, .slice none 0 0, .slice none 0 0] 104) := ⟨_, rfl⟩
 have HB1 : Hid (Blk wc b0 25 #[.slice A1 n1 c1, .string ⟨dir.toArray⟩, .string ⟨usr.toArray⟩, .slice A2 n2 c2, .slice A3 n3 c3, .slice A4 n4 c4, .slice A5 n5 c5]) := Lib.hid (by rw [hwc, hb0]; exact ((Blk.new _ _ _).alloc _).alloc _)
 have HB2 : Hid (Blk wc (b0 + 1) 54 #[.int .i64 0, .int .i64 0, .string ⟨#[]⟩, .slice none 0 0, .slice none 0 0]) := Lib.hid (by
  have := (Blk.new (w.alloc (.cells #[.slice A1 n1 c1, .string ⟨dir.toArray⟩, .string ⟨usr.toArray⟩, .slice A2 n2 c2, .slice A3 n3 c3, .slice A4 n4 c4, .slice A5 n5 c5] 25)) 54 #[.int .i64 0, .int .i64 0, .string ⟨#[]⟩, .slice none 0 0, .slice none 0 0]).alloc (.cells #[.int .i64 0, .int .i64 0, .string ⟨#[]⟩, .slice none 0 0, .slice none 0 0] 104)
  rw [hwc, hb0]; simpa using this)
 have HB3 : Hid (Blk wc (b0 + 2) 104 #[.int .i64 0, .int .i64 0, .string ⟨#[]⟩, .slice none 0 0, .slice none 0 0]) := Lib.hid (by
  have := Blk.new ((w.alloc (.cells #[.slice A1 n1 c1, .string ⟨dir.toArray⟩, .string ⟨usr.toArray⟩, .slice A2 n2 c2, .slice A3 n3 c3, .slice A4 n4 c4, .slice A5 n5 c5] 25)).alloc (.cells #[.int .i64 0, .int .i64 0, .string ⟨#[]⟩, .slice none 0 0, .slice none 0 0] 54)) 104 #[.int .i64 0, .int .i64 0, .string ⟨#[]⟩, .slice none 0 0, .slice none 0 0]
  rw [hwc, hb0]; simpa using this)
 have HW0 : Hid (Below b0 w wc /\ wc.heap.size = b0 + 3) := Lib.hid (by rw [hwc, hb0]; exact ⟨(((Below.refl _ _).alloc (Nat.le_refl _) _).alloc (by simp) _).alloc (by simp; omega) _, by simp⟩)
 have HB0 : Hid (b0 = w.heap.size) := Lib.hid hb0
 have HO0 := Lib.hid (OS.start (Bn := b0 + 3) (fun b => b0 + 3 ≤ b) (by omega) HB3.out (by omega) (by rw [HW0.out.2]; exact Nat.le_refl _) (fun b hb => by rw [HW0.out.2] at hb; exact hb))
 rw [<- hb0] at HR
 go_enter Tryz.func41, Tryz.ntmps41
 go_upto_region 3 with fail
 try rw [show w.heap.size + 1 + 1 = w.heap.size + 2 from rfl]
 rw [<- hwc, <- hb0]
 clear hwc hb0 HB3
 have x5 := HB1.out.cell 5
 go_wp2_with fail
 refine (list_any cmd A4 n4 c4 _ ((HR.out.2.2.2.1.below HW0.out.1).more (by have := HW0.out.2; omega)) (by omega)).mono ?_
 rintro x w1 ⟨A, cc, rfl, hv, hb⟩
 have HO1 := Lib.hid (HO0.out.below hb)
 have HV1 := Lib.hid hv
 clear hv hb x5
 go_wp2_with fail
 refine (os_some_made (v := tTexts cmd) (jv := .slice A cmd.length cc) (jk := .slice none 0 0) HO0.out HO1.out (by simp) kCmd HV1.out).mono ?_
 rintro x w2 ⟨rfl, _, iv2, kv2, ho, hk⟩
 rw [some_texts] at ho
 obtain ⟨L1, hL1⟩ : ∃ L1, L1 = [] ++ (if cmd = [] then [] else [(kCmd, tTexts cmd)]) := ⟨_, rfl⟩
 rw [<- hL1] at ho
 have HL1 : Hid (L1 = (if cmd = [] then [] else [(kCmd, tTexts cmd)]) /\ L1.length ≤ 1) := Lib.hid ⟨by rw [hL1]; rfl, by rw [hL1]; split <;> simp⟩
 have HO2 := Lib.hid ho
 clear ho hk hL1 HO0 HO1 HV1
 have HW2 : Hid (Below b0 w w2) := Lib.hid (HW0.out.1.trans (Kp.below ((HO2.out.hf.less (by omega)).mono (Nat.le_refl _) (fun k hk e => by omega))))
 have x6 := (HO2.out.blk HB1.out (by omega) (by omega)).cell 6
 go_wp2_with fail
 refine (list_any entry A5 n5 c5 _ ((HR.out.2.2.2.2.below HW2.out).more (by have := HO2.out.size; omega)) (by omega)).mono ?_
 rintro x w3 ⟨A, cc, rfl, hv, hb⟩
 have HO3 := Lib.hid (HO2.out.below hb)
 have HV3 := Lib.hid hv
 clear hv hb x6
 go_wp2_with fail
 refine (os_some_made (v := tTexts entry) (jv := .slice A entry.length cc) (jk := .slice none 0 0) HO2.out HO3.out (by have := HL1.out.2; omega) kEntry HV3.out).mono ?_
 rintro x w4 ⟨rfl, _, iv4, kv4, ho, hk⟩
 rw [some_texts] at ho
 obtain ⟨L2, hL2⟩ : ∃ L2, L2 = L1 ++ (if entry = [] then [] else [(kEntry, tTexts entry)]) := ⟨_, rfl⟩
 rw [<- hL2] at ho
 have HL2 : Hid (L2 = L1 ++ (if entry = [] then [] else [(kEntry, tTexts entry)]) /\ L2.length ≤ 2) := Lib.hid ⟨hL2, by rw [hL2, List.length_append]; have := HL1.out.2; split <;> simp <;> omega⟩
 have HO4 := Lib.hid ho
 clear ho hk hL2 HO2 HO3 HV3 HW2
 have HW4 : Hid (Below b0 w w4) := Lib.hid (HW0.out.1.trans (Kp.below ((HO4.out.hf.less (by omega)).mono (Nat.le_refl _) (fun k hk e => by omega))))
 have x0 := (HO4.out.blk HB1.out (by omega) (by omega)).cell 0
 obtain ⟨bE, hbE⟩ : ∃ bE, bE = w4.heap.size := ⟨_, rfl⟩
 have HBE : Hid (bE = w4.heap.size /\ b0 + 3 ≤ bE) := Lib.hid ⟨hbE, by rw [hbE]; exact HO4.out.size⟩
 clear hbE
 go_wp2_with fail
 go_loopw [5, 28] (fun ev ix wr => ∃ j : Nat, j ≤ n1 /\ ix = .int .i64 j /\ Hid (wr.ownsRow bE 9 1 ev j (tx ((env.take j).map envB))) /\ Hid (Below bE w4 wr /\ bE ≤ wr.heap.size)) (fun _ ix _ => n1 - (intOf ix).toNat)
 case atStart => exact ⟨0, by omega, rfl, Lib.hid (World.ownsRow_nil _ _ _ _), Lib.hid ⟨Below.refl _ _, Nat.le_of_eq HBE.out.1⟩⟩
 case round =>
  clear x0
  obtain ⟨j, hj, rfl, HO, HW⟩ := hrel
  by_cases hlt : j < n1
  . obtain ⟨ad, rfl, _, k0, k1⟩ := at_pair (HR.out.1.below (HW4.out.trans (HW.out.1.mono (by have := HBE.out; omega)))) hlt
    have hlt2 : j < env.length := by have := HN.out.1; omega
    have HTK : Hid ((env.take (j + 1)).map envB = (env.take j).map envB ++ [(env.getD j ([], [])).1 ++ 61 :: (env.getD j ([], [])).2]) := Lib.hid (by
      rw [List.take_succ_eq_append_getElem hlt2, List.map_append]
      simp [List.getD, List.getElem?_eq_getElem hlt2, envB])
    have hple := HPX.out (env.getD j ([], [])) (by simp [List.getD, List.getElem?_eq_getElem hlt2])
    generalize env.getD j ([], []) = p at k0 k1 HTK hple
    obtain ⟨p1, p2⟩ := p
    simp only at k0 k1 HTK hple
    obtain ⟨hp1, hp2⟩ := hple
    obtain ⟨A3, c3, e3, _⟩ := own_readsN HO.out
    subst e3
    clear hlt2
    go_upto_region 9 with fail
    obtain ⟨wa, hwa⟩ : ∃ wa, wa = wr.alloc (.cells #[.string ⟨p1.toArray⟩, .string ⟨p2.toArray⟩] 99) := ⟨_, rfl⟩
    obtain ⟨bn, hbn⟩ : ∃ bn, bn = wr.heap.size := ⟨_, rfl⟩
    have HBN : Hid (Blk wa bn 99 #[.string ⟨p1.toArray⟩, .string ⟨p2.toArray⟩]) := Lib.hid (by rw [hwa, hbn]; exact Blk.new _ _ _)
    have HOa : Hid (wa.ownsRow bE 9 1 (.slice A3 j c3) j (tx ((env.take j).map envB))) := Lib.hid (by rw [hwa]; exact World.ownsRow.alloc HO.out _)
    have HWa : Hid (Below bE w4 wa /\ bE ≤ wa.heap.size) := Lib.hid (by rw [hwa]; exact ⟨HW.out.1.alloc HW.out.2 _, by have := HW.out.2; simp; omega⟩)
    rw [<- hwa, <- hbn]
    clear hwa hbn k0 k1 HO HW
    have y0 := HBN.out.cell 0
    have y1 := HBN.out.cell 1
    have hwr := HWa.out.2
    have hjl : j ≤ 1099511627775 := by omega
    go_wp2_with (at_builtin; go_loud (refine wpList_append_any _ rfl _ _ 23 rfl bE 9 i0 (.string .empty) 1 16 Tryz.underlying23 hi hz0 hz1 hz2 rfl (by decide) (.slice A3 j c3) j (tx ((env.take j).map envB)) rfl (World.ownsRow.alloc HOa.out _) (wa.heap.size + 1) (some ⟨wa.heap.size, 0, none⟩) 1 1 [.string (⟨p1.toArray⟩ ++ ⟨#[61]⟩ ++ ⟨p2.toArray⟩)] rfl ((Reads.of_block (heap_alloc_new _ _) rfl).more (by simp)) (by intro u hu; obtain rfl := List.mem_singleton.1 hu; rfl) (by unfold maxLen; omega) (by omega) (by simp; omega) ?_; intro v6 w6 q1 q2 q3; obtain ⟨A6, c6, e6, _⟩ := own_readsN q1; subst e6; have HO6 := Lib.hid q1; have HG6 := Lib.hid q2; clear q1 q2 q3))
    refine ⟨⟨j + 1, by omega, by push_cast; rfl, Lib.hid ?_, Lib.hid ⟨(HWa.out.1.alloc hwr _).grown HG6.out (by simp; omega) (fun g e => (own_lt HOa.out e).1), Nat.le_trans hwr (Nat.le_trans (by simp) HG6.out.size)⟩⟩, ?_⟩
    . rw [HTK.out, tx_append]
      have := HO6.out
      rw [show (⟨#[61]⟩ : ByteArray) = ⟨([61] : B).toArray⟩ from rfl, cat3] at this
      exact this
    . show n1 - ((j : Int) + 1).toNat < n1 - ((j : Int)).toNat
      omega
  . obtain rfl : j = n1 := by omega
    obtain ⟨w5, hw5⟩ : ∃ w5, w5 = wr := ⟨_, rfl⟩
    subst hw5
    obtain ⟨te, hte⟩ : ∃ te, te = env.map envB := ⟨_, rfl⟩
    have HTE : Hid (te = env.map envB /\ te.length = j) := Lib.hid ⟨hte, by rw [hte, List.length_map]; exact HN.out.1.symm⟩
    obtain ⟨AE, cE, eE, hre⟩ := own_readsN HO.out
    subst eE
    have HRE : Hid (Reads w5 w5.heap.size 1 AE j (tx te)) := Lib.hid (by
      rw [show te = (env.take j).map envB by rw [hte, HN.out.1, List.take_length]]
      exact hre)
    have HO5 := Lib.hid (HO4.out.below (by rw [<- HBE.out.1]; exact HW.out.1))
    clear hre HO HW hte HO4 HW4
    go_wp2_with fail
    refine (list_any te AE j cE _ HRE.out (by omega)).mono ?_
    rintro x w6 ⟨A, ca, rfl, hv, hb⟩
    have HO6 := Lib.hid (HO5.out.below hb)
    have HV6 := Lib.hid hv
    clear hv hb HRE
    go_wp2_with fail
    refine (os_some_made (v := tTexts te) (jv := .slice A te.length ca) (jk := .slice none 0 0) HO5.out HO6.out (by have := HL2.out.2; omega) kEnv HV6.out).mono ?_
    rintro x w7 ⟨rfl, _, iv7, kv7, ho, hk⟩
    rw [some_texts] at ho
    obtain ⟨L3, hL3⟩ : ∃ L3, L3 = L2 ++ (if te = [] then [] else [(kEnv, tTexts te)]) := ⟨_, rfl⟩
    rw [<- hL3] at ho
    have HL3 : Hid (L3 = L2 ++ (if te = [] then [] else [(kEnv, tTexts te)]) /\ L3.length ≤ 3) := Lib.hid ⟨hL3, by rw [hL3, List.length_append]; have := HL2.out.2; split <;> simp <;> omega⟩
    have HO7 := Lib.hid ho
    clear ho hk hL3 HO5 HO6 HV6
    have HW7 : Hid (Below b0 w w7) := Lib.hid (HW0.out.1.trans (Kp.below ((HO7.out.hf.less (by omega)).mono (Nat.le_refl _) (fun k hk e => by omega))))
    have HB17 := Lib.hid (HO7.out.blk HB1.out (by omega) (by omega))
    have HB27 := Lib.hid (HO7.out.blk HB2.out (by omega) (by omega))
    clear HB1 HB2 HBE
    go_upto_region 13 with fail
    obtain ⟨bp, hbp⟩ : ∃ bp, bp = w7.heap.size := ⟨_, rfl⟩
    obtain ⟨w8, hw8⟩ : ∃ w8, w8 = (w7.alloc (.cells #[.int .i64 0, .int .i64 0, .string ⟨#[]⟩, .slice none 0 0, .slice none 0 0] 104)).alloc (.cells #[.int .i64 0, .int .i64 0, .string ⟨#[]⟩, .slice none 0 0, .slice none 0 0] 104) := ⟨_, rfl⟩
    have HBP : Hid (Blk w8 bp 104 #[.int .i64 0, .int .i64 0, .string ⟨#[]⟩, .slice none 0 0, .slice none 0 0]) := Lib.hid (by rw [hw8, hbp]; exact (Blk.new _ _ _).alloc _)
    have HBL : Hid (Blk w8 (bp + 1) 104 #[.int .i64 0, .int .i64 0, .string ⟨#[]⟩, .slice none 0 0, .slice none 0 0]) := Lib.hid (by
      have := Blk.new (w7.alloc (.cells #[.int .i64 0, .int .i64 0, .string ⟨#[]⟩, .slice none 0 0, .slice none 0 0] 104)) 104 #[.int .i64 0, .int .i64 0, .string ⟨#[]⟩, .slice none 0 0, .slice none 0 0]
      rw [hw8, hbp]; simpa using this)
    have HW8 : Hid (w8.heap.size = bp + 2 /\ b0 + 3 ≤ bp /\ Below bp w7 w8 /\ bp = w7.heap.size) := Lib.hid (by
      refine ⟨by rw [hw8, hbp]; simp, by rw [hbp]; exact HO7.out.size, ?_, hbp⟩
      rw [hw8, hbp]; exact ((Below.refl _ _).alloc (Nat.le_refl _) _).alloc (by simp) _)
    have HO8 : Hid (OS w8 w8 (b0 + 2) (b0 + 3) (fun b => b0 + 3 ≤ b /\ b ≠ bp /\ b ≠ bp + 1) L3 iv7 kv7) := Lib.hid (by
      have h8 := HW8.out
      exact HO7.out.turn (fun b hb _ => h8.2.2.1.block b (by omega)) (by have := h8.1; omega) (fun b hb hq => ⟨hq, by omega, by omega⟩) (fun b hb => ⟨by omega, by omega, by omega⟩) (by omega))
    have HB18 := Lib.hid (HB17.out.below HW8.out.2.2.1 (by have := HW8.out; omega))
    have HB28 := Lib.hid (HB27.out.below HW8.out.2.2.1 (by have := HW8.out; omega))
    have HBW8 : Hid (Below b0 w w8) := Lib.hid (HW7.out.trans (HW8.out.2.2.1.mono (by have := HW8.out; omega)))
    have HP0 := Lib.hid (OS.start (Bn := bp + 2) (fun b => bp + 2 ≤ b) (by omega) HBP.out (by omega) (by rw [HW8.out.1]; exact Nat.le_refl _) (fun b hb => by rw [HW8.out.1] at hb; exact hb))
    try rw [show w7.heap.size + 1 = bp + 1 by rw [hbp]]
    rw [<- hw8, <- hbp]
    have HP0z := Lib.hid HBP.out
    clear hw8 hbp HB17 HB27 HBP HO7 HW7
    have x3 := HB18.out.cell 3
    go_wp2_with fail
    clear x3
    go_loopw [49] (fun ix wr => ∃ (q : Nat) (pi pk : Value), q ≤ n2 /\ ix = .int .i64 q /\ Hid (OS w8 wr bp (bp + 2) (fun b => bp + 2 ≤ b) ((ports.take q).map fun p => (p, tO [])) pi pk)) (fun ix _ => n2 - (intOf ix).toNat)
    case atStart => exact ⟨0, _, _, by omega, rfl, HP0⟩
    case round =>
      clear HP0
      obtain ⟨q, pi, pk, hq, rfl, HP⟩ := hrel
      have HBP9 : Hid (Below b0 w8 wr) := Lib.hid (Kp.below ((HP.out.hf.less (by have := HW8.out; omega)).mono (Nat.le_refl _) (fun k hk e => by have := HW8.out; omega)))
      by_cases hql : q < n2
      . obtain ⟨ad, u, rfl, _, hu, hcu⟩ := (HR.out.2.1.below (HBW8.out.trans HBP9.out)).at_ hql
        have hql2 : q < ports.length := by have := HN.out.2.1; omega
        obtain rfl := tx_get hu hql2
        have HTK : Hid ((ports.take (q + 1)).map (fun p => (p, tO [])) = (ports.take q).map (fun p => (p, tO [])) ++ [(ports.getD q [], tO [])]) := Lib.hid (by
         rw [List.take_succ_eq_append_getElem hql2, List.map_append]
         simp [List.getD, List.getElem?_eq_getElem hql2])
        have HTL : Hid (((ports.take q).map (fun p => (p, tO []))).length ≤ 1099511627776) := Lib.hid (by rw [List.length_map, List.length_take]; omega)
        generalize ports.getD q [] = y at hcu hu HTK
        clear hu hql2
        go_wp2_with fail
        refine (os_put_obj HP.out HTL.out y).mono ?_
        rintro x w9 ⟨rfl, _, pi2, pk2, hp⟩
        have HP2 : Hid (OS w8 w9 bp (bp + 2) (fun b => bp + 2 ≤ b) ((ports.take (q + 1)).map fun p => (p, tO [])) pi2 pk2) := Lib.hid (by rw [HTK.out]; exact hp)
        clear hp HP HBP9
        go_wp2_with fail
        refine ⟨⟨q + 1, pi2, pk2, by omega, by push_cast; rfl, HP2⟩, ?_⟩
        show n2 - ((q : Int) + 1).toNat < n2 - ((q : Int)).toNat
        omega
      . obtain rfl : q = n2 := by omega
        obtain ⟨w9, hw9⟩ : ∃ w9, w9 = wr := ⟨_, rfl⟩
        subst hw9
        obtain ⟨PL, hPL⟩ : ∃ PL, PL = (ports.take q).map (fun p => (p, tO [])) := ⟨_, rfl⟩
        rw [<- hPL] at HP
        have HPL : Hid (PL = ports.map (fun p => (p, tO [])) /\ PL.length ≤ 1099511627776) := Lib.hid (by
         have e : ports.take q = ports := by rw [HN.out.2.1, List.take_length]
         rw [e] at hPL
         exact ⟨hPL, by rw [hPL, List.length_map]; have := HN.out.2.1; omega⟩)
        clear hPL
        obtain ⟨hbv, hvt⟩ := HP.out.vo (B0 := bp + 2) (Nat.le_refl _) (fun _ h => h) (by have := HPL.out.2; omega)
        have HVT := Lib.hid hvt
        have HBV := Lib.hid hbv
        obtain ⟨vp, hvp⟩ : ∃ vp, vp = vO PL := ⟨_, rfl⟩
        rw [<- hvp] at HVT HBV
        have HVP := Lib.hid hvp
        have HO9 := Lib.hid (HO8.out.turn (w' := w9) (Q' := fun b => b0 + 3 ≤ b /\ b ≠ bp /\ b ≠ bp + 1) (fun b hb hx => HP.out.hf.block b (by have := HW8.out; omega) (fun e => by
         subst e
         have hbz := HP0z.out
         rcases hx with hx | hx | hx | hx
         . have := HW8.out; omega
         . exact hx.2.1 rfl
         . exact (HO8.out.off hbz (by decide) (by decide)).1 hx
         . exact (HO8.out.off hbz (by decide) (by decide)).2 hx)) HP.out.hf.size (fun b _ h => h) (fun b hb => by have := HW8.out; have := HP.out.size; omega) (by omega))
        have HBL9 := Lib.hid (HP.out.blk HBL.out (by omega) (by omega))
        have HB19 := Lib.hid (HP.out.blk HB18.out (by have := HW8.out; omega) (by have := HW8.out; omega))
        have HB29 := Lib.hid (HP.out.blk HB28.out (by have := HW8.out; omega) (by have := HW8.out; omega))
        have HBW9 : Hid (Below b0 w w9) := Lib.hid (HBW8.out.trans HBP9.out)
        have HS9 : Hid (bp + 2 ≤ w9.heap.size) := Lib.hid HP.out.size
        clear hbv hvt hvp HB18 HB28 HBW8 HBP9 HBL
        have x0 := HBV.out.cell 0
        have x1 := HBV.out.cell 1
        have x2 := HBV.out.cell 2
        have x3 := HBV.out.cell 3
        have x4 := HBV.out.cell 4
        go_wp2_with fail
        clear x0 x1 x2 x3 x4
        refine (os_some_made HO8.out HO9.out (by have := HL3.out.2; omega) kPorts (by rw [HW8.out.1]; exact HVT.out)).mono ?_
        rintro x w10 ⟨rfl, _, iv10, kv10, ho, hk⟩
        rw [HVP.out, some_vO] at ho
        obtain ⟨L4, hL4⟩ : ∃ L4, L4 = L3 ++ (if PL = [] then [] else [(kPorts, tO PL)]) := ⟨_, rfl⟩
        rw [<- hL4] at ho
        have HL4 : Hid (L4 = L3 ++ (if PL = [] then [] else [(kPorts, tO PL)]) /\ L4.length ≤ 4) := Lib.hid ⟨hL4, by rw [hL4, List.length_append]; have := HL3.out.2; split <;> simp <;> omega⟩
        have HO10 := Lib.hid ho
        have HK10 := Lib.hid hk
        clear ho hk hL4
        have hoff := HO9.out.off HBL9.out (by decide) (by decide)
        have hof1 := HO9.out.hk.off (g := b0) (by omega)
        have hof2 := HO9.out.hk.off (g := b0 + 1) (by omega)
        have HBL10 := Lib.hid (HK10.out.blk HBL9.out (by have := HS9.out; omega) (by rintro (h | h | h); (have := HW8.out; omega); exact hoff.2 h; exact hoff.1 h))
        have HB110 := Lib.hid (HK10.out.blk HB19.out HB19.out.lt (by rintro (h | h | h); omega; exact hof1.2 h; exact hof1.1 h))
        have HB210 := Lib.hid (HK10.out.blk HB29.out HB29.out.lt (by rintro (h | h | h); omega; exact hof2.2 h; exact hof2.1 h))
        have HBW10 : Hid (Below b0 w w10) := Lib.hid (HBW9.out.trans (Kp.below (HK10.out.mono (by have := HS9.out; have := HW8.out; omega) (fun k hk h => by
         rcases h with h | h | h
         . omega
         . exact absurd h (HO9.out.hk.off (by omega)).2
         . exact absurd h (HO9.out.hk.off (by omega)).1))))
        have HS10 : Hid (bp + 2 ≤ w10.heap.size) := Lib.hid (Nat.le_trans HS9.out HK10.out.size)
        clear hoff hof1 hof2 HK10 HBL9 HB19 HB29 HBW9 HO9 HP HVT HBV HO8 HS9
        obtain ⟨B10, hB10⟩ : ∃ B10, B10 = w10.heap.size := ⟨_, rfl⟩
        have HBX : Hid (B10 = w10.heap.size /\ bp + 2 ≤ B10) := Lib.hid ⟨hB10, by rw [hB10]; exact HS10.out⟩
        have HQ0 := Lib.hid (OS.start (Bn := B10) (fun b => B10 ≤ b) (by have := HBX.out; omega) HBL10.out (by have := HBX.out; omega) (by rw [hB10]; exact Nat.le_refl _) (fun b hb => by rw [hB10]; exact hb))
        clear hB10 HS10
        have x4 := HB110.out.cell 4
        go_wp2_with fail
        clear x4
        go_loopw [64] (fun ix wr => ∃ (m : Nat) (pi pk : Value), m ≤ n3 /\ ix = .int .i64 m /\ Hid (OS w10 wr (bp + 1) B10 (fun b => B10 ≤ b) ((labels.take m).map fun p => (p.1, tT p.2)) pi pk)) (fun ix _ => n3 - (intOf ix).toNat)
        case atStart => exact ⟨0, _, _, by omega, rfl, HQ0⟩
        case round =>
         clear HQ0
         obtain ⟨m, pi, pk, hm, rfl, HP⟩ := hrel
         have HBP11 : Hid (Below b0 w10 wr) := Lib.hid (Kp.below ((HP.out.hf.less (by have := HW8.out; have := HBX.out; omega)).mono (Nat.le_refl _) (fun k hk e => by have := HW8.out; omega)))
         by_cases hml : m < n3
         . obtain ⟨ad, rfl, _, k0, k1⟩ := at_pair (HR.out.2.2.1.below (HBW10.out.trans HBP11.out)) hml
           have hml2 : m < labels.length := by have := HN.out.2.2.1; omega
           have HTK : Hid ((labels.take (m + 1)).map (fun p => (p.1, tT p.2)) = (labels.take m).map (fun p => (p.1, tT p.2)) ++ [((labels.getD m ([], [])).1, tT (labels.getD m ([], [])).2)]) := Lib.hid (by
            rw [List.take_succ_eq_append_getElem hml2, List.map_append]
            simp [List.getD, List.getElem?_eq_getElem hml2])
           have HTL : Hid (((labels.take m).map (fun p => (p.1, tT p.2))).length ≤ 1099511627776) := Lib.hid (by rw [List.length_map, List.length_take]; omega)
           generalize labels.getD m ([], []) = p at k0 k1 HTK
           obtain ⟨y1, y2⟩ := p
           simp only at k0 k1 HTK
           clear hml2
           go_upto_region 22 with fail
           obtain ⟨wp, hwp⟩ : ∃ wp, wp = wr.alloc (.cells #[.string ⟨y1.toArray⟩, .string ⟨y2.toArray⟩] 99) := ⟨_, rfl⟩
           obtain ⟨bn, hbn⟩ : ∃ bn, bn = wr.heap.size := ⟨_, rfl⟩
           have HBN : Hid (Blk wp bn 99 #[.string ⟨y1.toArray⟩, .string ⟨y2.toArray⟩]) := Lib.hid (by rw [hwp, hbn]; exact Blk.new _ _ _)
           have HPp : Hid (OS w10 wp (bp + 1) B10 (fun b => B10 ≤ b) ((labels.take m).map fun p => (p.1, tT p.2)) pi pk) := Lib.hid (HP.out.below (by rw [hwp]; exact (Below.refl _ _).alloc (Nat.le_refl _) _))
           have HBNX : Hid (B10 ≤ bn) := Lib.hid (by rw [hbn]; exact HP.out.size)
           rw [<- hwp, <- hbn]
           clear hwp hbn k0 k1 HP HBP11
           have hSx : wp.cell? ⟨bn, 0, none⟩ = some (.string ⟨y1.toArray⟩) /\ wp.cell? ⟨bn, 1, none⟩ = some (.string ⟨y2.toArray⟩) := ⟨HBN.out.cell 0, HBN.out.cell 1⟩
           refine wp_region_held_drew (S := (fun wy => wy.cell? ⟨bn, 0, none⟩ = some (.string ⟨y1.toArray⟩) /\ wy.cell? ⟨bn, 1, none⟩ = some (.string ⟨y2.toArray⟩))) (by kernel_rfl) hSx (fun hHeld => ?_)
           refine tk 0 (h := ?_)
           try simp only [Act.put, List.setIfInBounds_toArray, List.set_cons_zero, List.set_cons_succ]
           refine tk 1 (h := ?_)
           try simp only [Act.put, List.setIfInBounds_toArray, List.set_cons_zero, List.set_cons_succ]
           refine tk 2 (h := ?_)
           try simp only [Act.put, List.setIfInBounds_toArray, List.set_cons_zero, List.set_cons_succ]
           refine tk 3 (h := ?_)
           try simp only [Act.put, List.setIfInBounds_toArray, List.set_cons_zero, List.set_cons_succ]
           refine wpAnyH_ready (rs := [4]) (by kernel_rfl) (by simp) ?_
           refine rdy (fun K hK => ?_) AllReadyH.nil
           rw [if_pos (by rfl)]
           go_simp
           refine (text_any y2 _).mono ?_
           rintro z w11 ⟨rfl, hb11⟩
           have hb11 : Below wp.heap.size wp w11 := ((Below.refl wp.heap.size wp).drew).trans hb11
           have HP11 := Lib.hid (HPp.out.below hb11)
           have HBN11 := Lib.hid (HBN.out.below hb11 HBN.out.lt)
           refine hK.out _ _ ⟨HBN11.out.cell 0, HBN11.out.cell 1⟩ (fun _ => ?_)
           clear hK hb11 hHeld hSx HPp HBN
           try simp only [Act.put, List.setIfInBounds_toArray, List.set_cons_zero, List.set_cons_succ]
           refine wpAnyH_ready (rs := [5]) (by kernel_rfl) (by simp) ?_
           refine rdy (fun K hK => ?_) AllReadyH.nil
           rw [if_pos (by rfl)]
           go_simp
           refine (os_put_textK HP11.out HTL.out y1 y2).mono ?_
           rintro z w12 ⟨rfl, _, pi2, pk2, hp, hkp⟩
           have hof := HP11.out.off HBN11.out (by decide) (by decide)
           have HBN12 := Lib.hid (hkp.blk HBN11.out HBN11.out.lt (by rintro (h | h | h); (have := HBNX.out; have := HBX.out; omega); exact hof.2 h; exact hof.1 h))
           have HP2 : Hid (OS w10 w12 (bp + 1) B10 (fun b => B10 ≤ b) ((labels.take (m + 1)).map fun p => (p.1, tT p.2)) pi2 pk2) := Lib.hid (by rw [HTK.out]; exact hp)
           clear hp hkp hof HP11
           refine hK.out _ _ ⟨HBN12.out.cell 0, HBN12.out.cell 1⟩ (fun _ => ?_)
           clear hK HBN11 HBN12
           try simp only [Act.put, List.setIfInBounds_toArray, List.set_cons_zero, List.set_cons_succ]
           refine wpAnyH_done (by kernel_rfl) ?_ _
           go_wp2_with fail
           refine ⟨⟨m + 1, pi2, pk2, by omega, by push_cast; rfl, HP2⟩, ?_⟩
           show n3 - ((m : Int) + 1).toNat < n3 - ((m : Int)).toNat
           omega
         . obtain rfl : m = n3 := by omega
           obtain ⟨w11, hw11⟩ : ∃ w11, w11 = wr := ⟨_, rfl⟩
           subst hw11
           obtain ⟨LL, hLL⟩ : ∃ LL, LL = (labels.take m).map (fun p => (p.1, tT p.2)) := ⟨_, rfl⟩
           rw [<- hLL] at HP
           have HLL : Hid (LL = labels.map (fun p => (p.1, tT p.2)) /\ LL.length ≤ 1099511627776) := Lib.hid (by
            have e : labels.take m = labels := by rw [HN.out.2.2.1, List.take_length]
            rw [e] at hLL
            exact ⟨hLL, by rw [hLL, List.length_map]; have := HN.out.2.2.1; omega⟩)
           clear hLL
           obtain ⟨hbv, hvt⟩ := HP.out.vo (B0 := B10) (Nat.le_refl _) (fun _ h => h) (by have := HLL.out.2; omega)
           have HVT := Lib.hid hvt
           have HBV := Lib.hid hbv
           obtain ⟨vp2, hvp⟩ : ∃ vp2, vp2 = vO LL := ⟨_, rfl⟩
           rw [<- hvp] at HVT HBV
           have HVP2 := Lib.hid hvp
           have HO11 := Lib.hid (HO10.out.turn (w' := w11) (Q' := fun b => b0 + 3 ≤ b /\ b ≠ bp /\ b ≠ bp + 1) (fun b hb hx => HP.out.hf.block b (by have := HBX.out; omega) (fun e => by
            subst e
            rcases hx with hx | hx | hx | hx
            . have := HW8.out; omega
            . exact hx.2.2 rfl
            . exact (HO10.out.off HBL10.out (by decide) (by decide)).1 hx
            . exact (HO10.out.off HBL10.out (by decide) (by decide)).2 hx)) HP.out.hf.size (fun b _ h => h) (fun b hb => by have := HW8.out; have := HBX.out; have := HP.out.size; omega) (by omega))
           have HB111 := Lib.hid (HP.out.blk HB110.out (by have := HW8.out; have := HBX.out; omega) (by have := HW8.out; omega))
           have HB211 := Lib.hid (HP.out.blk HB210.out (by have := HW8.out; have := HBX.out; omega) (by have := HW8.out; omega))
           have HBW11 : Hid (Below b0 w w11) := Lib.hid (HBW10.out.trans HBP11.out)
           clear hbv hvt hvp HB110 HB210 HBW10 HBP11 HBL10
           have x0 := HBV.out.cell 0
           have x1 := HBV.out.cell 1
           have x2 := HBV.out.cell 2
           have x3 := HBV.out.cell 3
           have x4 := HBV.out.cell 4
           go_wp2_with fail
           clear x0 x1 x2 x3 x4
           refine (os_some_made HO10.out HO11.out (by have := HL4.out.2; omega) kLabels (by rw [<- HBX.out.1]; exact HVT.out)).mono ?_
           rintro x w12 ⟨rfl, _, iv12, kv12, ho, hk⟩
           rw [HVP2.out, some_vO] at ho
           obtain ⟨L5, hL5⟩ : ∃ L5, L5 = L4 ++ (if LL = [] then [] else [(kLabels, tO LL)]) := ⟨_, rfl⟩
           rw [<- hL5] at ho
           have HL5 : Hid (L5 = L4 ++ (if LL = [] then [] else [(kLabels, tO LL)]) /\ L5.length ≤ 5) := Lib.hid ⟨hL5, by rw [hL5, List.length_append]; have := HL4.out.2; split <;> simp <;> omega⟩
           have HO12 := Lib.hid ho
           have HK12 := Lib.hid hk
           clear ho hk hL5
           have hof1 := HO11.out.hk.off (g := b0) (by omega)
           have hof2 := HO11.out.hk.off (g := b0 + 1) (by omega)
           have HB112 := Lib.hid (HK12.out.blk HB111.out HB111.out.lt (by rintro (h | h | h); omega; exact hof1.2 h; exact hof1.1 h))
           have HB212 := Lib.hid (HK12.out.blk HB211.out HB211.out.lt (by rintro (h | h | h); omega; exact hof2.2 h; exact hof2.1 h))
           have HBW12 : Hid (Below b0 w w12) := Lib.hid (HBW11.out.trans (Kp.below (HK12.out.mono (Nat.le_of_lt HB111.out.lt) (fun k hk h => by
            rcases h with h | h | h
            . omega
            . exact absurd h (HO11.out.hk.off (by omega)).2
            . exact absurd h (HO11.out.hk.off (by omega)).1))))
           clear hof1 hof2 HK12 HB111 HB211 HBW11 HO10 HO11 HP HVT HBV
           have x2 := HB112.out.cell 2
           go_wp2_with fail
           clear x2
           refine (text_any usr _).mono ?_
           rintro x w13 ⟨rfl, hb13⟩
           have HO13 := Lib.hid (HO12.out.below hb13)
           have HB113 := Lib.hid (HB112.out.below hb13 HB112.out.lt)
           have HB213 := Lib.hid (HB212.out.below hb13 HB212.out.lt)
           have HBW13 : Hid (Below b0 w w13) := Lib.hid (HBW12.out.trans (hb13.mono (Nat.le_of_lt HB112.out.lt)))
           clear hb13 HO12 HB112 HB212 HBW12
           go_wp2_with fail
           refine (os_some_text HO13.out (by have := HL5.out.2; omega) kUser usr).mono ?_
           rintro x w14 ⟨rfl, _, iv14, kv14, ho, hk⟩
           obtain ⟨L6, hL6⟩ : ∃ L6, L6 = L5 ++ (if usr = [] then [] else [(kUser, tT usr)]) := ⟨_, rfl⟩
           rw [<- hL6] at ho
           have HL6 : Hid (L6 = L5 ++ (if usr = [] then [] else [(kUser, tT usr)]) /\ L6.length ≤ 6) := Lib.hid ⟨hL6, by rw [hL6, List.length_append]; have := HL5.out.2; split <;> simp <;> omega⟩
           have HO14 := Lib.hid ho
           have HK14 := Lib.hid hk
           clear ho hk hL6
           have hof1 := HO13.out.hk.off (g := b0) (by omega)
           have hof2 := HO13.out.hk.off (g := b0 + 1) (by omega)
           have HB114 := Lib.hid (HK14.out.blk HB113.out HB113.out.lt (by rintro (h | h | h); omega; exact hof1.2 h; exact hof1.1 h))
           have HB214 := Lib.hid (HK14.out.blk HB213.out HB213.out.lt (by rintro (h | h | h); omega; exact hof2.2 h; exact hof2.1 h))
           have HBW14 : Hid (Below b0 w w14) := Lib.hid (HBW13.out.trans (Kp.below (HK14.out.mono (Nat.le_of_lt HB113.out.lt) (fun k hk h => by
            rcases h with h | h | h
            . omega
            . exact absurd h (HO13.out.hk.off (by omega)).2
            . exact absurd h (HO13.out.hk.off (by omega)).1))))
           clear hof1 hof2 HK14 HB113 HB213 HBW13 HO13
           have x1 := HB114.out.cell 1
           go_wp2_with fail
           clear x1
           refine (text_any dir _).mono ?_
           rintro x w15 ⟨rfl, hb15⟩
           have HO15 := Lib.hid (HO14.out.below hb15)
           have HB215 := Lib.hid (HB214.out.below hb15 HB214.out.lt)
           have HBW15 : Hid (Below b0 w w15) := Lib.hid (HBW14.out.trans (hb15.mono (Nat.le_of_lt HB114.out.lt)))
           clear hb15 HO14 HB114 HB214 HBW14
           go_wp2_with fail
           refine (os_put_textK HO15.out (by have := HL6.out.2; omega) kDir dir).mono ?_
           rintro x w16 ⟨rfl, _, iv16, kv16, ho, hk⟩
           have HO16 := Lib.hid ho
           have hof2 := HO15.out.hk.off (g := b0 + 1) (by omega)
           have HB216 := Lib.hid (hk.blk HB215.out HB215.out.lt (by rintro (h | h | h); omega; exact hof2.2 h; exact hof2.1 h))
           have HBW16 : Hid (Below b0 w w16) := Lib.hid (HBW15.out.trans (Kp.below (hk.mono (by have := HB215.out.lt; omega) (fun k hk h => by
            rcases h with h | h | h
            . omega
            . exact absurd h (HO15.out.hk.off (by omega)).2
            . exact absurd h (HO15.out.hk.off (by omega)).1))))
           clear ho hk hof2 HB215 HBW15 HO15
           obtain ⟨kd, hbo, hk6, _⟩ := HO16.out.ho
           obtain rfl : kd = 6 := hk6 (by simp)
           have x0 := hbo.cell 0
           have x1 := hbo.cell 1
           have x2 := hbo.cell 2
           have x3 := hbo.cell 3
           have x4 := hbo.cell 4
           have HBO := Lib.hid hbo
           clear hbo hk6
           have hi5 : (Tryz.prog.info? 54).map (·.size) = some 5 := by kernel_rfl
           have hone : ([.int .i64 6, .int .i64 0, .string ⟨#[]⟩, iv16, kv16] : List Value).toArray.all (·.oneCell') = true := by
            obtain ⟨A, c, e1⟩ := HO16.out.hk.form1
            obtain ⟨A', c', e2⟩ := HO16.out.hk.form2
            rw [e1, e2]; simp [Value.oneCell']
           go_wp2_with (refine wpList_store_row rfl 54 _ _ rfl _ _ rfl rfl 54 _ HB216.out (by simpa using hi5) (by simp) hone ?_)
           obtain ⟨w17, hw17⟩ : ∃ w17, w17 = w16.setRow (b0 + 1) #[.int .i64 6, .int .i64 0, .string ⟨#[]⟩, iv16, kv16] := ⟨_, rfl⟩
           have H17 : Hid (Blk w17 (b0 + 1) 54 #[.int .i64 6, .int .i64 0, .string ⟨#[]⟩, iv16, kv16]) := Lib.hid (by rw [hw17]; exact setRow_same HB216.out _)
           have HCM : Hid (L6 ++ [(kDir, tT dir)] = cfgM ⟨env, dir, usr, ports, labels, cmd, entry⟩) := Lib.hid (by
            rw [HL6.out.1, HL5.out.1, HL4.out.1, HL3.out.1, HL2.out.1, HL1.out.1, HLL.out.1, HPL.out.1, HTE.out.1]
            unfold cfgM
            simp only [List.append_assoc, List.map_eq_nil_iff])
           have HF : Hid (VT w17 w.heap.size (cfgT ⟨env, dir, usr, ports, labels, cmd, entry⟩) #[.int .i64 6, .int .i64 0, .string ⟨#[]⟩, iv16, kv16] /\ Below w.heap.size w w17) := Lib.hid (by
            have h1 := HO16.out.vt (B0 := b0 + 3) (Nat.le_refl _) (fun _ h => h.1) (by rw [List.length_append]; have := HL6.out.2; simp; omega)
            rw [HCM.out] at h1
            have h2 : VT w17 (b0 + 3) (cfgT ⟨env, dir, usr, ports, labels, cmd, entry⟩) #[.int .i64 6, .int .i64 0, .string ⟨#[]⟩, iv16, kv16] := h1.kept (fun b hb _ => by rw [hw17]; exact setRow_other w16 (b0 + 1) b _ (by omega)) (by rw [hw17]; simp)
            refine ⟨h2.less (by have := HB0.out; omega), ?_⟩
            rw [<- HB0.out, hw17]
            exact setRow_below HBW16.out (by omega) _)
           rw [<- hw17]
           clear hw17 x0 x1 x2 x3 x4
           (try simp only [Exit.inBlock, Exit.then])
           refine bodyPost_ret (results_cell_row rfl _ _ (b0 + 1) 54 _ (0, 0) _ rfl H17.out Tryz.underlying54 rfl (by simpa using hi5)) rfl ?_
           exact ⟨iv16, kv16, rfl, HF.out⟩
end Js.Cf
end Go.Proofs.YtjohdaobhonioaaGreatDoor
