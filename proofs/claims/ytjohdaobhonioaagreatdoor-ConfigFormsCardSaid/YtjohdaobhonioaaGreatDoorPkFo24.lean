/-
  Parts of the proof: JsOn.
-/
import Derived.Test.YtjohdaobhonioaaGreatDoorPkFo8
import Derived.Test.YtjohdaobhonioaaGreatDoorPkFo22
import Derived.Test.YtjohdaobhonioaaGreatDoorPkFo23
namespace Go.Proofs.YtjohdaobhonioaaGreatDoor
open Go.RowKit
namespace Js
def words : List (List UInt8) := [[110, 117, 108, 108], [102, 97, 108, 115, 101], [116, 114, 117, 101]]
def wd (k : Nat) : List UInt8 := words.getD k []
theorem atom_word {T : List UInt8} {k : Nat} (hk : k < 3) (h : ∀ j, j < k -> (wd j).isPrefixOf T = false) (hp : (wd k).isPrefixOf T = true) : atom T = some (.ok (plainH k) .nil (T.drop (wd k).length)) := by
 match k, hk with
 | 0, _ =>
  have hp : ([110, 117, 108, 108] : List UInt8).isPrefixOf T = true := hp
  unfold atom; rw [if_pos hp]; rfl
 | 1, _ =>
  have h0 : ([110, 117, 108, 108] : List UInt8).isPrefixOf T = false := h 0 (by omega)
  have hp : ([102, 97, 108, 115, 101] : List UInt8).isPrefixOf T = true := hp
  unfold atom; rw [if_neg (by rw [h0]; decide), if_pos hp]; rfl
 | 2, _ =>
  have h0 : ([110, 117, 108, 108] : List UInt8).isPrefixOf T = false := h 0 (by omega)
  have h1 : ([102, 97, 108, 115, 101] : List UInt8).isPrefixOf T = false := h 1 (by omega)
  have hp : ([116, 114, 117, 101] : List UInt8).isPrefixOf T = true := hp
  unfold atom; rw [if_neg (by rw [h0]; decide), if_neg (by rw [h1]; decide), if_pos hp]; rfl
theorem atom_rest {c : UInt8} {r : List UInt8} (h : ∀ j, j < 3 -> (wd j).isPrefixOf (c :: r) = false) : atom (c :: r) = if c = 34 then some (txt r).out else if c = 91 ∨ c = 123 then none else if c = 45 ∨ (48 ≤ c.toNat /\ c.toNat ≤ 57) then some (numOut (c :: r)) else some (.err 4 (c :: r)) := by
 have h0 : ([110, 117, 108, 108] : List UInt8).isPrefixOf (c :: r) = false := h 0 (by omega)
 have h1 : ([102, 97, 108, 115, 101] : List UInt8).isPrefixOf (c :: r) = false := h 1 (by omega)
 have h2 : ([116, 114, 117, 101] : List UInt8).isPrefixOf (c :: r) = false := h 2 (by omega)
 unfold atom
 rw [if_neg (by rw [h0]; decide), if_neg (by rw [h1]; decide), if_neg (by rw [h2]; decide)]
theorem tv_plain {k : Nat} (hk : k < 3) (w : World) : TV (encN true) w (fun _ => False) (plainH k) .nil [.iface 211 (.int .i64 k)] := by
 refine ⟨none, 0, none, 0, [], ?_, by simp [F.len], ⟨by simp [plainH], fun _ _ => ⟨rfl, rfl⟩⟩, RdS.none_, rfl, RdS.none_⟩
 match k, hk with
 | 0, _ => rfl
 | 1, _ => rfl
 | 2, _ => rfl
theorem tv_num (z : Int) (w : World) : TV (encN true) w (fun _ => False) ⟨3, z, [], []⟩ .nil [.iface 219 (.int .i64 z)] :=
 ⟨none, 0, none, 0, [], rfl, by simp [F.len], ⟨by simp, fun _ _ => ⟨rfl, rfl⟩⟩, RdS.none_, rfl, RdS.none_⟩
theorem tv_txt (t : List UInt8) (w : World) : TV (encN true) w (fun _ => False) ⟨4, 0, t, []⟩ .nil [.iface 212 (.string ⟨t.toArray⟩)] :=
 ⟨none, 0, none, 0, [], rfl, by simp [F.len], ⟨by simp, fun _ _ => ⟨rfl, rfl⟩⟩, RdS.none_, rfl, RdS.none_⟩
def nlen (t : List UInt8) : Nat := (t.takeWhile numc).length
theorem nlen_le (t : List UInt8) : nlen t ≤ t.length := by
 unfold nlen
 have := congrArg List.length (List.takeWhile_append_dropWhile (p := numc) (l := t))
 rw [List.length_append] at this; omega
theorem nlen_take (t : List UInt8) : t.take (nlen t) = t.takeWhile numc := by
 unfold nlen
 have h := List.takeWhile_append_dropWhile (p := numc) (l := t)
 conv => lhs; rw [<- h]
 rw [List.takeWhile_append_dropWhile]
 conv => lhs; arg 2; rw [<- h]
 exact List.take_left
theorem nlen_step : ∀ (t : List UInt8) (k : Nat), k ≤ nlen t -> (k < nlen t ↔ k < t.length /\ numc (t.getD k 0) = true)
 | [], k, h => by simp [nlen] at h ⊢
 | c :: r, k, h => by
  by_cases hc : numc c = true
  . have e : nlen (c :: r) = nlen r + 1 := by unfold nlen; rw [List.takeWhile_cons, if_pos hc]; rfl
    cases k with
    | zero => rw [e]; simp [hc]
    | succ k =>
     have := nlen_step r k (by omega)
     rw [e]
     simpa using this
  . have e : nlen (c :: r) = 0 := by unfold nlen; rw [List.takeWhile_cons, if_neg hc]; rfl
    rw [e] at h ⊢
    obtain rfl : k = 0 := by omega
    simp [hc]
theorem val_err2 {d : Nat} {t : List UInt8} (h : bl t = []) : val d t = .err 2 [] := by rw [val_eq, h]
theorem val_err5 {d : Nat} {t : List UInt8} {c : UInt8} {r : List UInt8} (h : bl t = c :: r) (hd : 32 < d) : val d t = .err 5 (c :: r) := by rw [val_eq, h]; simp only; rw [if_pos hd]
theorem val_some {d : Nat} {t : List UInt8} {c : UInt8} {r : List UInt8} {o : Out} (h : bl t = c :: r) (hd : ¬ 32 < d) (ha : atom (c :: r) = some o) : val d t = o := by rw [val_eq, h]; simp only; rw [if_neg hd, ha]
theorem val_none {d : Nat} {t : List UInt8} {c : UInt8} {r : List UInt8} (h : bl t = c :: r) (hd : ¬ 32 < d) (ha : atom (c :: r) = none) : val d t = if c = 91 then listO d r else objO d r := by rw [val_eq, h]; simp only; rw [if_neg hd, ha]
-- <
set_option maxHeartbeats 32000000 in
set_option maxRecDepth 100000 in
theorem node_step (s : List UInt8) (rb m : Nat) (hs : s.length ≤ 4398046511104) (hrb : 11 ≤ rb) (hL : ∀ m', m' < m -> ListC s rb m') (hO : ∀ m', m' < m -> ObjC s rb m') : NodeC s rb m := by
 intro p d w hp hm hd hst hr
 have HL := Lib.hid hL
 have HOB := Lib.hid hO
 have HBL := Lib.hid (blanks_any s hs p rb hp w hr)
 have HST := Lib.hid hst
 have HRB := Lib.hid hrb
 have HM := Lib.hid hm
 have HW : Hid (rb < w.heap.size) := Lib.hid (Blk.lt hr)
 clear hL hO hst hr hrb hm
 obtain ⟨O, hO⟩ : ∃ O, O = val d (s.drop p) := ⟨_, rfl⟩
 rw [<- hO]
 have HO := Lib.hid hO
 clear hO
 cases hb : bl (s.drop p) with
 | nil =>
  have HP : Hid (O = .err 2 []) := Lib.hid (by rw [HO.out, val_err2 hb])
  have HF := Lib.hid (fault_any 2 s.length)
  unfold faultV at HF
  go_enter Tryz.func55, Tryz.ntmps55
  go_wp2_with fail
  refine HBL.out.mono ?_
  rintro x w1 ⟨q, rfl, hpq, hq, he, hr1, hk1⟩
  obtain rfl : q = s.length := drop_nil_len hq (he.trans hb)
  rw [show decide (s.length < s.length) = false from decide_eq_false (Nat.lt_irrefl _)]
  have HR1 := Lib.hid hr1
  have HK1 := Lib.hid hk1
  clear hr1 hk1 he hb
  have c1 := HR1.out.c1
  go_wp2_with fail
  refine (HF.out _).mono ?_
  rintro x w2 ⟨rfl, hb2⟩
  have HR2 : Hid (Rdr w2 rb s s.length) := Lib.hid (HR1.out.below hb2 HR1.out.lt)
  have HK2 := Lib.hid (HK1.out.step hb2 HK1.out.size)
  clear hb2 c1
  go_wp2
  go_ret2
  rw [HP.out]
  exact ⟨_, s.length, s.length, rfl, by simp, Nat.le_refl _, HR2.out, HK2.out⟩
 | cons c r =>
  obtain ⟨q, hqe⟩ : ∃ q : Nat, q + r.length + 1 = s.length := by
    have := bl_len (s.drop p)
    rw [hb, List.length_drop, List.length_cons] at this
    exact ⟨s.length - r.length - 1, by omega⟩
  by_cases hd32 : 32 < d
  . have HP : Hid (O = .err 5 (c :: r)) := Lib.hid (by rw [HO.out, val_err5 hb hd32])
    have HF := Lib.hid (fault_any 5 q)
    unfold faultV at HF
    have hdi : (32 : Int) < d := by omega
    go_enter Tryz.func55, Tryz.ntmps55
    go_wp2_with fail
    refine HBL.out.mono ?_
    rintro x w1 ⟨q', rfl, hpq, hq, he, hr1, hk1⟩
    obtain ⟨hlt, _, _, hlen⟩ := drop_cons_at (he.trans hb)
    obtain rfl : q' = q := by omega
    rw [show decide (q' < s.length) = true from decide_eq_true hlt]
    have HR1 := Lib.hid hr1
    have HK1 := Lib.hid hk1
    clear hr1 hk1 he hb hlen hd32
    have c1 := HR1.out.c1
    go_wp2_with fail
    refine (HF.out _).mono ?_
    rintro x w2 ⟨rfl, hb2⟩
    have HR2 : Hid (Rdr w2 rb s q') := Lib.hid (HR1.out.below hb2 HR1.out.lt)
    have HK2 := Lib.hid (HK1.out.step hb2 HK1.out.size)
    clear hb2 c1
    go_wp2
    go_ret2
    rw [HP.out]
    exact ⟨_, q', q', rfl, by simp; omega, hq, HR2.out, HK2.out⟩
  . have hdi : ¬ (32 : Int) < d := by omega
    have hd2 : d ≤ 32 := by omega
    go_enter Tryz.func55, Tryz.ntmps55
    go_wp2_with fail
    refine HBL.out.mono ?_
    rintro x w1 ⟨q', rfl, hpq, hq, he, hr1, hk1⟩
    obtain ⟨hlt, hgc, hdr, hlen⟩ := drop_cons_at (he.trans hb)
    obtain rfl : q' = q := by omega
    rw [show decide (q' < s.length) = true from decide_eq_true hlt]
    have HR1 := Lib.hid hr1
    have HK1 := Lib.hid hk1
    have HD := Lib.hid (he.trans hb)
    have HDR := Lib.hid hdr
    have HA1 : Hid (∀ o, atom (c :: r) = some o -> O = o) := Lib.hid (fun o h => by rw [HO.out]; exact val_some hb hd32 h)
    have HA2 : Hid (atom (c :: r) = none -> O = if c = 91 then listO d r else objO d r) := Lib.hid (fun h => by rw [HO.out]; exact val_none hb hd32 h)
    have hsl := fun wx => run_slice_from_list Tryz.underlying9 s .i64 (q' : Int) q' rfl hq wx
    rw [he.trans hb] at hsl
    obtain ⟨T, hT⟩ : ∃ T, T = c :: r := ⟨_, rfl⟩
    have hTl : T.length = r.length + 1 := by rw [hT]; rfl
    have hidx0 : ∀ wx, (Instr.index 9 (.string ⟨T.toArray⟩) (.int .i64 0)).run Tryz.prog wx = .ok (.int .u8 c.toNat) wx := fun wx => by
     have := run_index_list (P := Tryz.prog) Tryz.underlying9 T 0 (by omega) wx
     rw [show T.getD 0 0 = c by rw [hT]; rfl] at this
     exact this
    rw [<- hT] at hsl HD HA1 HA2
    have HT := Lib.hid hT
    clear hr1 hk1 he hb hgc hdr hlen HBL hd32 hT
    have c0 := HR1.out.c0
    have c1 := HR1.out.c1
    go_wp2_with fail
    go_quiet (fail)
    have HR2 : Hid (Rdr (w1.drewN nq) rb s q') := Lib.hid HR1.out
    have HK2 := Lib.hid (HK1.out.drewN nq)
    clear c0 c1 HR1 HK1
    generalize w1.drewN nq = w2 at HR2 HK2 ⊢
    go_wp2_with fail
    have HRW : Hid (Reads (w2.alloc (.cells #[.string ⟨#[110, 117, 108, 108]⟩, .string ⟨#[102, 97, 108, 115, 101]⟩, .string ⟨#[116, 114, 117, 101]⟩] 9)) (w2.alloc (.cells #[.string ⟨#[110, 117, 108, 108]⟩, .string ⟨#[102, 97, 108, 115, 101]⟩, .string ⟨#[116, 114, 117, 101]⟩] 9)).heap.size 1 (some ⟨w2.heap.size, 0, none⟩) 3 (tx words)) :=
     Lib.hid (Reads.of_block (n := 3) (size := 1) (heap_alloc_new w2 _) rfl)
    have HR3 : Hid (Rdr (w2.alloc (.cells #[.string ⟨#[110, 117, 108, 108]⟩, .string ⟨#[102, 97, 108, 115, 101]⟩, .string ⟨#[116, 114, 117, 101]⟩] 9)) rb s q') := Lib.hid (Blk.alloc HR2.out _)
    have HK3 : Hid (Kp w.heap.size (· = rb) w (w2.alloc (.cells #[.string ⟨#[110, 117, 108, 108]⟩, .string ⟨#[102, 97, 108, 115, 101]⟩, .string ⟨#[116, 114, 117, 101]⟩] 9))) := Lib.hid (HK2.out.alloc HK2.out.size _)
    clear HR2 HK2
    generalize (⟨w2.heap.size, 0, none⟩ : Addr) = ad at HRW ⊢
    generalize w2.alloc (.cells #[.string ⟨#[110, 117, 108, 108]⟩, .string ⟨#[102, 97, 108, 115, 101]⟩, .string ⟨#[116, 114, 117, 101]⟩] 9) = w3 at HRW HR3 HK3 ⊢
    go_loopg [39, 7, 8] 4 (fun gk i _ _ wr => ∃ k : Nat, k ≤ 3 /\ 3 - k < gk /\ i = .int .i64 k /\ Hid (∀ j, j < k -> (wd j).isPrefixOf T = false) /\ Hid (Rdr wr rb s q') /\ Hid (Kp w.heap.size (· = rb) w wr) /\ Hid (Reads wr wr.heap.size 1 (some ad) 3 (tx words)))
    case atStart => exact ⟨0, by omega, by omega, rfl, Lib.hid (fun j h => absurd h (by omega)), HR3, HK3, HRW⟩
    case round =>
     clear HR3 HK3 HRW
     obtain ⟨k, hk3, hgk, rfl, HNP, HR, HK, HRW⟩ := hrel
     by_cases hk : k < 3
     . obtain ⟨ad', u, had, _, hu, hc⟩ := HRW.out.at_ hk
       obtain rfl : ad = ad' := by injection had
       obtain rfl := tx_get hu (by exact hk)
       have HI := Lib.hid (prefix_any T (wd k))
       rw [show words.getD k [] = wd k from rfl] at hc
       clear hu had
       by_cases hpk : (wd k).isPrefixOf T = true
       . have HP : Hid (O = .ok (plainH k) .nil (T.drop (wd k).length)) := Lib.hid (HA1.out _ (atom_word hk HNP.out hpk))
         have hwl := isPrefixOf_len hpk
         rw [hpk] at HI
         clear hpk
         generalize wd k = ww at hc HI HP hwl
         have c1 := HR.out.c1
         have f1 := Blk.frozen HR.out 1
         go_wp2_with fail
         refine (HI.out _).mono ?_
         rintro x w4 ⟨rfl, rfl⟩
         go_wp2
         go_ret2
         rw [HP.out]
         exact ⟨_, q' + ww.length, fun _ => False, rfl, tv_plain hk _, fun _ h => h.elim, by omega, by rw [<- HD.out, List.drop_drop], HR.out.to (q' + ww.length) _ (by omega), HK.out.rdr _⟩
       . rw [Bool.not_eq_true] at hpk
         have HNP1 : Hid (∀ j, j < k + 1 -> (wd j).isPrefixOf T = false) := Lib.hid (fun j hj => by
           by_cases e : j = k
           . rw [e]; exact hpk
           . exact HNP.out j (by omega))
         rw [hpk] at HI
         clear hpk HNP
         generalize wd k = ww at hc HI
         go_wp2_with fail
         refine (HI.out _).mono ?_
         rintro x w4 ⟨rfl, rfl⟩
         go_wp2_with fail
         go_roundg (gk - 1)
         case measure => omega
         case rel => exact ⟨k + 1, by omega, by omega, by go_num, HNP1, HR, HK, HRW⟩
     . obtain rfl : k = 3 := by omega
       have HAR : Hid (atom T = if c = 34 then some (txt r).out else if c = 91 ∨ c = 123 then none else if c = 45 ∨ (48 ≤ c.toNat /\ c.toNat ≤ 57) then some (numOut T) else some (.err 4 T)) := Lib.hid (by rw [HT.out]; exact atom_rest (HT.out ▸ HNP.out))
       clear HNP HRW hk
       by_cases h34 : c = 34
       . have q1 : ((c.toNat : Int) == 34) = true := b8t h34
         have HP : Hid (O = (txt r).out) := Lib.hid (HA1.out _ (by rw [HAR.out, if_pos h34]))
         have HTX := Lib.hid (text_any s hs q' rb hlt wr HR.out)
         rw [HDR.out] at HTX
         clear HAR HA1 HA2 h34
         cases ht : txt r with
         | err no r2 =>
           rw [ht] at HTX HP
           clear ht
           go_wp2_with fail
           refine HTX.out.mono ?_
           rintro x w5 ⟨q2, a2, rfl, hl2, hq2, hr5, hk5⟩
           have HR5 := Lib.hid hr5
           have HK5 := Lib.hid (HK.out.trans (hk5.less HK.out.size))
           have HLn := Lib.hid hl2
           clear hr5 hk5 hl2
           unfold faultV
           go_wp2
           go_ret2
           rw [HP.out]
           exact ⟨_, q2, a2, rfl, HLn.out, hq2, HR5.out, HK5.out⟩
         | ok t2 r2 =>
           rw [ht] at HTX HP
           clear ht
           go_wp2_with fail
           refine HTX.out.mono ?_
           rintro x w5 ⟨q2, rfl, hq2, hr2, hr5, hk5⟩
           have HR5 := Lib.hid hr5
           have HK5 := Lib.hid (HK.out.trans (hk5.less HK.out.size))
           have HLn := Lib.hid hr2
           clear hr5 hk5 hr2
           go_wp2
           go_ret2
           rw [HP.out]
           exact ⟨_, q2, fun _ => False, rfl, tv_txt _ _, fun _ h => h.elim, hq2, HLn.out, HR5.out, HK5.out⟩
       . have q1 : ((c.toNat : Int) == 34) = false := b8f h34
         by_cases h91 : c = 91
         . have q2 : ((c.toNat : Int) == 91) = true := b8t h91
           have HP : Hid (O = listO d r) := Lib.hid (by rw [HA2.out (by rw [HAR.out, if_neg h34, if_pos (.inl h91)]), if_pos h91])
           have c1 := HR.out.c1
           have f1 := Blk.frozen HR.out 1
           have HR5 := Lib.hid (HR.out.to (q' + 1) ((q' : Int) + 1) (by omega))
           have HK5 := Lib.hid (HK.out.rdr (.int .i64 ((q' : Int) + 1)))
           have HC := Lib.hid (HL.out (s.length - (q' + 1)) (by have := HM.out; omega) (q' + 1) d _ (by omega) (Nat.le_refl _) hd2 (HST.out.rdr HK5.out HRB.out) HR5.out)
           rw [HDR.out, <- HP.out] at HC
           clear HAR HA1 HA2 h34 h91
           go_wp2_with fail
           refine HC.out.mono ?_
           intro x w6 hpost
           have HPo := Lib.hid hpost
           clear hpost
           unfold NdPost at HPo
           cases O with
           | err no r2 =>
             obtain ⟨u, q2, a2, rfl, hl2, hq2, hr6, hk6⟩ := HPo.out
             have HR6 := Lib.hid hr6
             have HK6 := Lib.hid (HK5.out.trans (hk6.less HK5.out.size))
             have HLn := Lib.hid hl2
             clear hr6 hk6 hl2 HPo
             unfold faultV
             go_wp2
             go_ret2
             exact ⟨_, q2, a2, rfl, HLn.out, hq2, HR6.out, HK6.out⟩
           | ok h2 k2 r2 =>
             obtain ⟨u, q2, S, rfl, htv, hS, hq2, hr2, hr6, hk6⟩ := HPo.out
             have HR6 := Lib.hid hr6
             have HK6 := Lib.hid (HK5.out.trans (hk6.less HK5.out.size))
             have HLn := Lib.hid hr2
             have HTV := Lib.hid htv
             have HS : Hid (∀ b, S b -> w.heap.size ≤ b /\ b < w6.heap.size) := Lib.hid (fun b hb => ⟨by have := (hS b hb).1; have := HK5.out.size; omega, (hS b hb).2⟩)
             clear hr6 hk6 hr2 HPo htv hS
             go_wp2
             go_ret2
             exact ⟨_, q2, S, rfl, HTV.out, HS.out, hq2, HLn.out, HR6.out, HK6.out⟩
         . have q2 : ((c.toNat : Int) == 91) = false := b8f h91
           by_cases h123 : c = 123
           . have q3 : ((c.toNat : Int) == 123) = true := b8t h123
             have HP : Hid (O = objO d r) := Lib.hid (by rw [HA2.out (by rw [HAR.out, if_neg h34, if_pos (.inr h123)]), if_neg h91])
             have c1 := HR.out.c1
             have f1 := Blk.frozen HR.out 1
             have HR5 := Lib.hid (HR.out.to (q' + 1) ((q' : Int) + 1) (by omega))
             have HK5 := Lib.hid (HK.out.rdr (.int .i64 ((q' : Int) + 1)))
             have HC := Lib.hid (HOB.out (s.length - (q' + 1)) (by have := HM.out; omega) (q' + 1) d _ (by omega) (Nat.le_refl _) hd2 (HST.out.rdr HK5.out HRB.out) HR5.out)
             rw [HDR.out, <- HP.out] at HC
             clear HAR HA1 HA2 h34 h91 h123
             go_wp2_with fail
             refine HC.out.mono ?_
             intro x w6 hpost
             have HPo := Lib.hid hpost
             clear hpost
             unfold NdPost at HPo
             cases O with
             | err no r2 =>
               obtain ⟨u, q2, a2, rfl, hl2, hq2, hr6, hk6⟩ := HPo.out
               have HR6 := Lib.hid hr6
               have HK6 := Lib.hid (HK5.out.trans (hk6.less HK5.out.size))
               have HLn := Lib.hid hl2
               clear hr6 hk6 hl2 HPo
               unfold faultV
               go_wp2
               go_ret2
               exact ⟨_, q2, a2, rfl, HLn.out, hq2, HR6.out, HK6.out⟩
             | ok h2 k2 r2 =>
               obtain ⟨u, q2, S, rfl, htv, hS, hq2, hr2, hr6, hk6⟩ := HPo.out
               have HR6 := Lib.hid hr6
               have HK6 := Lib.hid (HK5.out.trans (hk6.less HK5.out.size))
               have HLn := Lib.hid hr2
               have HTV := Lib.hid htv
               have HS : Hid (∀ b, S b -> w.heap.size ≤ b /\ b < w6.heap.size) := Lib.hid (fun b hb => ⟨by have := (hS b hb).1; have := HK5.out.size; omega, (hS b hb).2⟩)
               clear hr6 hk6 hr2 HPo htv hS
               go_wp2
               go_ret2
               exact ⟨_, q2, S, rfl, HTV.out, HS.out, hq2, HLn.out, HR6.out, HK6.out⟩
           . have q3 : ((c.toNat : Int) == 123) = false := b8f h123
             by_cases hnum : c = 45 ∨ (48 ≤ c.toNat /\ c.toNat ≤ 57)
             . have HP : Hid (O = numOut T) := Lib.hid (HA1.out _ (by rw [HAR.out, if_neg h34, if_neg (by rintro (h | h); exact h91 h; exact h123 h), if_pos hnum]))
               clear HAR HA1 HA2 h34 h91 h123
               have HNL := Lib.hid (nlen_le T)
               (rcases hnum with h45 | ⟨h48, h57⟩)
               . have q4 : ((c.toNat : Int) == 45) = true := b8t h45
                 clear h45
                 go_upto_region 23 with fail
                 go_wp2_with fail
                 go_loopg [10] (T.length + 1) (fun gk n wr => ∃ k : Nat, k ≤ nlen T /\ T.length - k < gk /\ n = .int .i64 k /\ Hid (Rdr wr rb s q') /\ Hid (Kp w.heap.size (· = rb) w wr))
                 case atStart => exact ⟨0, by omega, by omega, rfl, HR, HK⟩
                 case round =>
                  clear HR HK
                  obtain ⟨k, hk, hgk, rfl, HR, HK⟩ := hrel
                  have hnl := HNL.out
                  have HN := Lib.hid (nlen_step T k hk)
                  by_cases hkn : k < nlen T
                  . obtain ⟨hlt2, hnc⟩ := HN.out.1 hkn
                    have hidx := run_index_list Tryz.underlying9 T k hlt2
                    generalize T.getD k 0 = c2 at hidx hnc
                    have HI := Lib.hid (index_any [48, 49, 50, 51, 52, 53, 54, 55, 56, 57, 45, 43, 46, 101, 69] c2)
                    have q7 := num_idx c2
                    rw [hnc] at q7
                    generalize Lib.indexByte [48, 49, 50, 51, 52, 53, 54, 55, 56, 57, 45, 43, 46, 101, 69] c2 = z at HI q7
                    clear hnc HN
                    go_wp2_with fail
                    refine (HI.out _).mono ?_
                    rintro x w4 ⟨rfl, rfl⟩
                    go_wp2_with fail
                    go_roundg (gk - 1)
                    case measure => omega
                    case rel => exact ⟨k + 1, by omega, by omega, by go_num, HR, HK⟩
                  . obtain rfl : k = nlen T := by omega
                    have HTK := Lib.hid (nlen_take T)
                    have hsl2 := fun wx => run_slice_to_list Tryz.underlying9 T .i64 (nlen T : Int) (nlen T) rfl hnl wx
                    rw [HTK.out] at hsl2
                    have HNO : Hid (O = match numOf (T.takeWhile numc) with
                      | some z => .ok ⟨3, z, [], []⟩ .nil (T.drop (nlen T))
                      | none => .err 4 T) := Lib.hid (by rw [HP.out]; rfl)
                    have hml : (T.takeWhile numc).length = nlen T := rfl
                    have HML := Lib.hid hml
                    have hN := HN.out
                    clear HN hml HTK
                    generalize T.takeWhile numc = mm at hsl2 HNO HML
                    generalize nlen T = L at *
                    have HMB : Hid (mm.length ≤ 4398046511104) := Lib.hid (by rw [HML.out]; omega)
                    (by_cases hlt2 : L < T.length)
                    . have hidx := run_index_list Tryz.underlying9 T L hlt2
                      have hnc : numc (T.getD L 0) = false := by
                       cases hx : numc (T.getD L 0) with
                       | false => rfl
                       | true => exact absurd (hN.2 ⟨hlt2, hx⟩) (by omega)
                      generalize T.getD L 0 = c2 at hidx hnc hN
                      have HI := Lib.hid (index_any [48, 49, 50, 51, 52, 53, 54, 55, 56, 57, 45, 43, 46, 101, 69] c2)
                      have q7 := num_idx c2
                      rw [hnc] at q7
                      generalize Lib.indexByte [48, 49, 50, 51, 52, 53, 54, 55, 56, 57, 45, 43, 46, 101, 69] c2 = z at HI q7
                      clear hnc hN hkn
                      go_wp2_with fail
                      refine (HI.out _).mono ?_
                      rintro x w4 ⟨rfl, rfl⟩
                      go_upto_region 26 with fail
                      cases hpi : Lib.parseIntB 64 mm with
                      | ok z =>
                       have HPI := Lib.hid (parse_ok_any mm HMB.out z hpi)
                       have hnp := num_parse hpi
                       have hbd := Lib.parseIntB_bounds hpi
                       have HFM : Hid (∀ wx, St wx -> Calls Tryz.prog 153 #[.int .i64 z, .int .i64 10] wx fun x w' => x = .returned (.string ⟨(decI z).toArray⟩) /\ Below wx.heap.size wx w') := Lib.hid (fun wx h => format_any z (by simp at hbd; omega) (by simp at hbd; omega) wx h)
                       rw [show Lib.itoa z = decI z from rfl] at hnp
                       clear hbd hpi
                       go_wp2_with fail
                       refine (HPI.out _).mono ?_
                       rintro x w5 ⟨rfl, hb5⟩
                       have HR5 : Hid (Rdr w5 rb s q') := Lib.hid (HR.out.below hb5 HR.out.lt)
                       have HK5 := Lib.hid (HK.out.step hb5 HK.out.size)
                       have HS5 := Lib.hid (HST.out.rdr HK5.out HRB.out)
                       clear hb5 HR HK HPI
                       by_cases hz : decI z = mm
                       . rw [if_pos hz] at hnp
                         have HP2 : Hid (O = .ok ⟨3, z, [], []⟩ .nil (T.drop L)) := Lib.hid (by rw [HNO.out, hnp])
                         rw [hz] at HFM
                         have hc2 := fun wx => neq_texts mm mm wx
                         rw [decide_eq_false (by simp)] at hc2
                         clear hz hnp HNO
                         go_upto_region 27 with fail
                         go_cut [139] (fun zz wx => zz = .bool false /\ Hid (Below w5.heap.size w5 wx))
                         case first =>
                          refine wp_region_held_drew (S := (fun _ => True)) (by kernel_rfl) trivial (fun _ => ?_)
                          refine tk 0 (h := ?_)
                          try simp only [Act.put, List.setIfInBounds_toArray, List.set_cons_zero, List.set_cons_succ]
                          refine tk 1 (h := ?_)
                          try simp only [Act.put, List.setIfInBounds_toArray, List.set_cons_zero, List.set_cons_succ]
                          refine tk 2 (h := ?_)
                          try simp only [Act.put, List.setIfInBounds_toArray, List.set_cons_zero, List.set_cons_succ]
                          refine tk 3 (h := ?_)
                          try simp only [Act.put, List.setIfInBounds_toArray, List.set_cons_zero, List.set_cons_succ]
                          refine tk 5 (h := ?_)
                          try simp only [Act.put, List.setIfInBounds_toArray, List.set_cons_zero, List.set_cons_succ]
                          refine tk 6 (h := ?_)
                          try simp only [Act.put, List.setIfInBounds_toArray, List.set_cons_zero, List.set_cons_succ]
                          refine tk 7 (h := ?_)
                          try simp only [Act.put, List.setIfInBounds_toArray, List.set_cons_zero, List.set_cons_succ]
                          refine wpAnyH_ready (rs := [4]) (by kernel_rfl) (by simp) ?_
                          refine rdy (fun K hK => ?_) AllReadyH.nil
                          rw [if_pos (by rfl)]
                          go_simp
                          refine (HFM.out _ HS5.out.drew).mono ?_
                          rintro x w6 ⟨rfl, hb6⟩
                          refine hK.out _ _ trivial (fun _ => ?_)
                          clear hK
                          try simp only [Act.put, List.setIfInBounds_toArray, List.set_cons_zero, List.set_cons_succ]
                          refine tk 8 (h := ?_)
                          try simp only [Act.put, List.setIfInBounds_toArray, List.set_cons_zero, List.set_cons_succ]
                          refine tk 9 (h := ?_)
                          try simp only [Act.put, List.setIfInBounds_toArray, List.set_cons_zero, List.set_cons_succ]
                          refine wpAnyH_done (by kernel_rfl) ?_ _
                          go_wp2_with fail
                          go_meet
                          exact ⟨by simp, Lib.hid (((Below.refl _ _).drew).trans hb6)⟩
                         case rest =>
                          obtain ⟨rfl, HB6⟩ := hcut
                          have HR6 : Hid (Rdr wc rb s q') := Lib.hid (HR5.out.below HB6.out HR5.out.lt)
                          have HK6 := Lib.hid (HK5.out.step HB6.out HK5.out.size)
                          clear HR5 HK5 HB6
                          have c1 := HR6.out.c1
                          have f1 := Blk.frozen HR6.out 1
                          go_wp2
                          go_ret2
                          rw [HP2.out]
                          exact ⟨_, q' + L, fun _ => False, rfl, tv_num _ _, fun _ h => h.elim, by omega, by rw [<- HD.out, List.drop_drop], HR6.out.to (q' + L) _ (by omega), HK6.out.rdr _⟩
                       . rw [if_neg hz] at hnp
                         have HP2 : Hid (O = .err 4 T) := Lib.hid (by rw [HNO.out, hnp])
                         have HZ := Lib.hid hz
                         have HF := Lib.hid (fault_any 4 q')
                         unfold faultV at HF
                         generalize decI z = dz at HFM HZ
                         clear hnp HNO hz
                         go_upto_region 27 with fail
                         go_cut [139] (fun zz wx => zz = .bool true /\ Hid (Below w5.heap.size w5 wx))
                         case first =>
                          refine wp_region_held_drew (S := (fun _ => True)) (by kernel_rfl) trivial (fun _ => ?_)
                          refine tk 0 (h := ?_)
                          try simp only [Act.put, List.setIfInBounds_toArray, List.set_cons_zero, List.set_cons_succ]
                          refine tk 1 (h := ?_)
                          try simp only [Act.put, List.setIfInBounds_toArray, List.set_cons_zero, List.set_cons_succ]
                          refine tk 2 (h := ?_)
                          try simp only [Act.put, List.setIfInBounds_toArray, List.set_cons_zero, List.set_cons_succ]
                          refine tk 3 (h := ?_)
                          try simp only [Act.put, List.setIfInBounds_toArray, List.set_cons_zero, List.set_cons_succ]
                          refine tk 5 (h := ?_)
                          try simp only [Act.put, List.setIfInBounds_toArray, List.set_cons_zero, List.set_cons_succ]
                          refine tk 6 (h := ?_)
                          try simp only [Act.put, List.setIfInBounds_toArray, List.set_cons_zero, List.set_cons_succ]
                          refine tk 7 (h := ?_)
                          try simp only [Act.put, List.setIfInBounds_toArray, List.set_cons_zero, List.set_cons_succ]
                          refine wpAnyH_ready (rs := [4]) (by kernel_rfl) (by simp) ?_
                          refine rdy (fun K hK => ?_) AllReadyH.nil
                          rw [if_pos (by rfl)]
                          go_simp
                          refine (HFM.out _ HS5.out.drew).mono ?_
                          rintro x w6 ⟨rfl, hb6⟩
                          refine hK.out _ _ trivial (fun _ => ?_)
                          clear hK
                          try simp only [Act.put, List.setIfInBounds_toArray, List.set_cons_zero, List.set_cons_succ]
                          refine tk 8 (h := ?_)
                          try simp only [Act.put, List.setIfInBounds_toArray, List.set_cons_zero, List.set_cons_succ]
                          refine tk 9 (h := ?_)
                          try simp only [Act.put, List.setIfInBounds_toArray, List.set_cons_zero, List.set_cons_succ]
                          refine wpAnyH_done (by kernel_rfl) ?_ _
                          go_wp2_with fail
                          go_meet
                          exact ⟨by simp [HZ.out], Lib.hid (((Below.refl _ _).drew).trans hb6)⟩
                         case rest =>
                          obtain ⟨rfl, HB6⟩ := hcut
                          have HR6 : Hid (Rdr wc rb s q') := Lib.hid (HR5.out.below HB6.out HR5.out.lt)
                          have HK6 := Lib.hid (HK5.out.step HB6.out HK5.out.size)
                          clear HR5 HK5 HB6
                          have c1 := HR6.out.c1
                          go_wp2_with fail
                          refine (HF.out _).mono ?_
                          rintro x w7 ⟨rfl, hb7⟩
                          have HR7 : Hid (Rdr w7 rb s q') := Lib.hid (HR6.out.below hb7 HR6.out.lt)
                          have HK7 := Lib.hid (HK6.out.step hb7 HK6.out.size)
                          clear hb7 c1
                          go_wp2
                          go_ret2
                          rw [HP2.out]
                          exact ⟨_, q', q', rfl, by omega, hq, HR7.out, HK7.out⟩
                      | «syntax» =>
                       have hno : ∀ v, Lib.parseIntB 64 mm ≠ .ok v := fun v h => by rw [hpi] at h; cases h
                       have HPI := Lib.hid (parse_bad_any mm HMB.out hno wr (HST.out.rdr HK.out HRB.out))
                       have HP2 : Hid (O = .err 4 T) := Lib.hid (by rw [HNO.out, num_none hno])
                       have HF := Lib.hid (fault_any 4 q')
                       unfold faultV at HF
                       clear hpi hno HNO
                       go_wp2_with fail
                       refine HPI.out.mono ?_
                       rintro x w5 ⟨z, TT, NN, rfl, hb5⟩
                       have HR5 : Hid (Rdr w5 rb s q') := Lib.hid (HR.out.below hb5 HR.out.lt)
                       have HK5 := Lib.hid (HK.out.step hb5 HK.out.size)
                       clear hb5 HR HK HPI
                       go_wp2_with fail
                       refine wp_region_held_drew (S := (fun _ => True)) (by kernel_rfl) trivial (fun _ => ?_)
                       refine tk 0 (h := ?_)
                       try simp only [Act.put, List.setIfInBounds_toArray, List.set_cons_zero, List.set_cons_succ]
                       refine tk 1 (h := ?_)
                       try simp only [Act.put, List.setIfInBounds_toArray, List.set_cons_zero, List.set_cons_succ]
                       refine tk 2 (h := ?_)
                       try simp only [Act.put, List.setIfInBounds_toArray, List.set_cons_zero, List.set_cons_succ]
                       refine tks 3 (h := ?_)
                       try simp only [Act.put, List.setIfInBounds_toArray, List.set_cons_zero, List.set_cons_succ]
                       refine tks 4 (h := ?_)
                       try simp only [Act.put, List.setIfInBounds_toArray, List.set_cons_zero, List.set_cons_succ]
                       refine tks 5 (h := ?_)
                       try simp only [Act.put, List.setIfInBounds_toArray, List.set_cons_zero, List.set_cons_succ]
                       refine tks 6 (h := ?_)
                       try simp only [Act.put, List.setIfInBounds_toArray, List.set_cons_zero, List.set_cons_succ]
                       refine tks 7 (h := ?_)
                       try simp only [Act.put, List.setIfInBounds_toArray, List.set_cons_zero, List.set_cons_succ]
                       refine tks 8 (h := ?_)
                       try simp only [Act.put, List.setIfInBounds_toArray, List.set_cons_zero, List.set_cons_succ]
                       refine tk 9 (h := ?_)
                       try simp only [Act.put, List.setIfInBounds_toArray, List.set_cons_zero, List.set_cons_succ]
                       refine wpAnyH_done (by kernel_rfl) ?_ _
                       have HR6 : Hid (Rdr w5.drew rb s q') := Lib.hid HR5.out
                       have HK6 := Lib.hid HK5.out.drew
                       clear HR5 HK5
                       generalize w5.drew = w6 at HR6 HK6 ⊢
                       have c1 := HR6.out.c1
                       go_wp2_with fail
                       refine (HF.out _).mono ?_
                       rintro x w7 ⟨rfl, hb7⟩
                       have HR7 : Hid (Rdr w7 rb s q') := Lib.hid (HR6.out.below hb7 HR6.out.lt)
                       have HK7 := Lib.hid (HK6.out.step hb7 HK6.out.size)
                       clear hb7 c1
                       go_wp2
                       go_ret2
                       rw [HP2.out]
                       exact ⟨_, q', q', rfl, by omega, hq, HR7.out, HK7.out⟩
                      | range =>
                       have hno : ∀ v, Lib.parseIntB 64 mm ≠ .ok v := fun v h => by rw [hpi] at h; cases h
                       have HPI := Lib.hid (parse_bad_any mm HMB.out hno wr (HST.out.rdr HK.out HRB.out))
                       have HP2 : Hid (O = .err 4 T) := Lib.hid (by rw [HNO.out, num_none hno])
                       have HF := Lib.hid (fault_any 4 q')
                       unfold faultV at HF
                       clear hpi hno HNO
                       go_wp2_with fail
                       refine HPI.out.mono ?_
                       rintro x w5 ⟨z, TT, NN, rfl, hb5⟩
                       have HR5 : Hid (Rdr w5 rb s q') := Lib.hid (HR.out.below hb5 HR.out.lt)
                       have HK5 := Lib.hid (HK.out.step hb5 HK.out.size)
                       clear hb5 HR HK HPI
                       go_wp2_with fail
                       refine wp_region_held_drew (S := (fun _ => True)) (by kernel_rfl) trivial (fun _ => ?_)
                       refine tk 0 (h := ?_)
                       try simp only [Act.put, List.setIfInBounds_toArray, List.set_cons_zero, List.set_cons_succ]
                       refine tk 1 (h := ?_)
                       try simp only [Act.put, List.setIfInBounds_toArray, List.set_cons_zero, List.set_cons_succ]
                       refine tk 2 (h := ?_)
                       try simp only [Act.put, List.setIfInBounds_toArray, List.set_cons_zero, List.set_cons_succ]
                       refine tks 3 (h := ?_)
                       try simp only [Act.put, List.setIfInBounds_toArray, List.set_cons_zero, List.set_cons_succ]
                       refine tks 4 (h := ?_)
                       try simp only [Act.put, List.setIfInBounds_toArray, List.set_cons_zero, List.set_cons_succ]
                       refine tks 5 (h := ?_)
                       try simp only [Act.put, List.setIfInBounds_toArray, List.set_cons_zero, List.set_cons_succ]
                       refine tks 6 (h := ?_)
                       try simp only [Act.put, List.setIfInBounds_toArray, List.set_cons_zero, List.set_cons_succ]
                       refine tks 7 (h := ?_)
                       try simp only [Act.put, List.setIfInBounds_toArray, List.set_cons_zero, List.set_cons_succ]
                       refine tks 8 (h := ?_)
                       try simp only [Act.put, List.setIfInBounds_toArray, List.set_cons_zero, List.set_cons_succ]
                       refine tk 9 (h := ?_)
                       try simp only [Act.put, List.setIfInBounds_toArray, List.set_cons_zero, List.set_cons_succ]
                       refine wpAnyH_done (by kernel_rfl) ?_ _
                       have HR6 : Hid (Rdr w5.drew rb s q') := Lib.hid HR5.out
                       have HK6 := Lib.hid HK5.out.drew
                       clear HR5 HK5
                       generalize w5.drew = w6 at HR6 HK6 ⊢
                       have c1 := HR6.out.c1
                       go_wp2_with fail
                       refine (HF.out _).mono ?_
                       rintro x w7 ⟨rfl, hb7⟩
                       have HR7 : Hid (Rdr w7 rb s q') := Lib.hid (HR6.out.below hb7 HR6.out.lt)
                       have HK7 := Lib.hid (HK6.out.step hb7 HK6.out.size)
                       clear hb7 c1
                       go_wp2
                       go_ret2
                       rw [HP2.out]
                       exact ⟨_, q', q', rfl, by omega, hq, HR7.out, HK7.out⟩
                    . clear hN hkn
                      go_upto_region 26 with fail
                      cases hpi : Lib.parseIntB 64 mm with
                      | ok z =>
                       have HPI := Lib.hid (parse_ok_any mm HMB.out z hpi)
                       have hnp := num_parse hpi
                       have hbd := Lib.parseIntB_bounds hpi
                       have HFM : Hid (∀ wx, St wx -> Calls Tryz.prog 153 #[.int .i64 z, .int .i64 10] wx fun x w' => x = .returned (.string ⟨(decI z).toArray⟩) /\ Below wx.heap.size wx w') := Lib.hid (fun wx h => format_any z (by simp at hbd; omega) (by simp at hbd; omega) wx h)
                       rw [show Lib.itoa z = decI z from rfl] at hnp
                       clear hbd hpi
                       go_wp2_with fail
                       refine (HPI.out _).mono ?_
                       rintro x w5 ⟨rfl, hb5⟩
                       have HR5 : Hid (Rdr w5 rb s q') := Lib.hid (HR.out.below hb5 HR.out.lt)
                       have HK5 := Lib.hid (HK.out.step hb5 HK.out.size)
                       have HS5 := Lib.hid (HST.out.rdr HK5.out HRB.out)
                       clear hb5 HR HK HPI
                       by_cases hz : decI z = mm
                       . rw [if_pos hz] at hnp
                         have HP2 : Hid (O = .ok ⟨3, z, [], []⟩ .nil (T.drop L)) := Lib.hid (by rw [HNO.out, hnp])
                         rw [hz] at HFM
                         have hc2 := fun wx => neq_texts mm mm wx
                         rw [decide_eq_false (by simp)] at hc2
                         clear hz hnp HNO
                         go_upto_region 27 with fail
                         go_cut [139] (fun zz wx => zz = .bool false /\ Hid (Below w5.heap.size w5 wx))
                         case first =>
                          refine wp_region_held_drew (S := (fun _ => True)) (by kernel_rfl) trivial (fun _ => ?_)
                          refine tk 0 (h := ?_)
                          try simp only [Act.put, List.setIfInBounds_toArray, List.set_cons_zero, List.set_cons_succ]
                          refine tk 1 (h := ?_)
                          try simp only [Act.put, List.setIfInBounds_toArray, List.set_cons_zero, List.set_cons_succ]
                          refine tk 2 (h := ?_)
                          try simp only [Act.put, List.setIfInBounds_toArray, List.set_cons_zero, List.set_cons_succ]
                          refine tk 3 (h := ?_)
                          try simp only [Act.put, List.setIfInBounds_toArray, List.set_cons_zero, List.set_cons_succ]
                          refine tk 5 (h := ?_)
                          try simp only [Act.put, List.setIfInBounds_toArray, List.set_cons_zero, List.set_cons_succ]
                          refine tk 6 (h := ?_)
                          try simp only [Act.put, List.setIfInBounds_toArray, List.set_cons_zero, List.set_cons_succ]
                          refine tk 7 (h := ?_)
                          try simp only [Act.put, List.setIfInBounds_toArray, List.set_cons_zero, List.set_cons_succ]
                          refine wpAnyH_ready (rs := [4]) (by kernel_rfl) (by simp) ?_
                          refine rdy (fun K hK => ?_) AllReadyH.nil
                          rw [if_pos (by rfl)]
                          go_simp
                          refine (HFM.out _ HS5.out.drew).mono ?_
                          rintro x w6 ⟨rfl, hb6⟩
                          refine hK.out _ _ trivial (fun _ => ?_)
                          clear hK
                          try simp only [Act.put, List.setIfInBounds_toArray, List.set_cons_zero, List.set_cons_succ]
                          refine tk 8 (h := ?_)
                          try simp only [Act.put, List.setIfInBounds_toArray, List.set_cons_zero, List.set_cons_succ]
                          refine tk 9 (h := ?_)
                          try simp only [Act.put, List.setIfInBounds_toArray, List.set_cons_zero, List.set_cons_succ]
                          refine wpAnyH_done (by kernel_rfl) ?_ _
                          go_wp2_with fail
                          go_meet
                          exact ⟨by simp, Lib.hid (((Below.refl _ _).drew).trans hb6)⟩
                         case rest =>
                          obtain ⟨rfl, HB6⟩ := hcut
                          have HR6 : Hid (Rdr wc rb s q') := Lib.hid (HR5.out.below HB6.out HR5.out.lt)
                          have HK6 := Lib.hid (HK5.out.step HB6.out HK5.out.size)
                          clear HR5 HK5 HB6
                          have c1 := HR6.out.c1
                          have f1 := Blk.frozen HR6.out 1
                          go_wp2
                          go_ret2
                          rw [HP2.out]
                          exact ⟨_, q' + L, fun _ => False, rfl, tv_num _ _, fun _ h => h.elim, by omega, by rw [<- HD.out, List.drop_drop], HR6.out.to (q' + L) _ (by omega), HK6.out.rdr _⟩
                       . rw [if_neg hz] at hnp
                         have HP2 : Hid (O = .err 4 T) := Lib.hid (by rw [HNO.out, hnp])
                         have HZ := Lib.hid hz
                         have HF := Lib.hid (fault_any 4 q')
                         unfold faultV at HF
                         generalize decI z = dz at HFM HZ
                         clear hnp HNO hz
                         go_upto_region 27 with fail
                         go_cut [139] (fun zz wx => zz = .bool true /\ Hid (Below w5.heap.size w5 wx))
                         case first =>
                          refine wp_region_held_drew (S := (fun _ => True)) (by kernel_rfl) trivial (fun _ => ?_)
                          refine tk 0 (h := ?_)
                          try simp only [Act.put, List.setIfInBounds_toArray, List.set_cons_zero, List.set_cons_succ]
                          refine tk 1 (h := ?_)
                          try simp only [Act.put, List.setIfInBounds_toArray, List.set_cons_zero, List.set_cons_succ]
                          refine tk 2 (h := ?_)
                          try simp only [Act.put, List.setIfInBounds_toArray, List.set_cons_zero, List.set_cons_succ]
                          refine tk 3 (h := ?_)
                          try simp only [Act.put, List.setIfInBounds_toArray, List.set_cons_zero, List.set_cons_succ]
                          refine tk 5 (h := ?_)
                          try simp only [Act.put, List.setIfInBounds_toArray, List.set_cons_zero, List.set_cons_succ]
                          refine tk 6 (h := ?_)
                          try simp only [Act.put, List.setIfInBounds_toArray, List.set_cons_zero, List.set_cons_succ]
                          refine tk 7 (h := ?_)
                          try simp only [Act.put, List.setIfInBounds_toArray, List.set_cons_zero, List.set_cons_succ]
                          refine wpAnyH_ready (rs := [4]) (by kernel_rfl) (by simp) ?_
                          refine rdy (fun K hK => ?_) AllReadyH.nil
                          rw [if_pos (by rfl)]
                          go_simp
                          refine (HFM.out _ HS5.out.drew).mono ?_
                          rintro x w6 ⟨rfl, hb6⟩
                          refine hK.out _ _ trivial (fun _ => ?_)
                          clear hK
                          try simp only [Act.put, List.setIfInBounds_toArray, List.set_cons_zero, List.set_cons_succ]
                          refine tk 8 (h := ?_)
                          try simp only [Act.put, List.setIfInBounds_toArray, List.set_cons_zero, List.set_cons_succ]
                          refine tk 9 (h := ?_)
                          try simp only [Act.put, List.setIfInBounds_toArray, List.set_cons_zero, List.set_cons_succ]
                          refine wpAnyH_done (by kernel_rfl) ?_ _
                          go_wp2_with fail
                          go_meet
                          exact ⟨by simp [HZ.out], Lib.hid (((Below.refl _ _).drew).trans hb6)⟩
                         case rest =>
                          obtain ⟨rfl, HB6⟩ := hcut
                          have HR6 : Hid (Rdr wc rb s q') := Lib.hid (HR5.out.below HB6.out HR5.out.lt)
                          have HK6 := Lib.hid (HK5.out.step HB6.out HK5.out.size)
                          clear HR5 HK5 HB6
                          have c1 := HR6.out.c1
                          go_wp2_with fail
                          refine (HF.out _).mono ?_
                          rintro x w7 ⟨rfl, hb7⟩
                          have HR7 : Hid (Rdr w7 rb s q') := Lib.hid (HR6.out.below hb7 HR6.out.lt)
                          have HK7 := Lib.hid (HK6.out.step hb7 HK6.out.size)
                          clear hb7 c1
                          go_wp2
                          go_ret2
                          rw [HP2.out]
                          exact ⟨_, q', q', rfl, by omega, hq, HR7.out, HK7.out⟩
                      | «syntax» =>
                       have hno : ∀ v, Lib.parseIntB 64 mm ≠ .ok v := fun v h => by rw [hpi] at h; cases h
                       have HPI := Lib.hid (parse_bad_any mm HMB.out hno wr (HST.out.rdr HK.out HRB.out))
                       have HP2 : Hid (O = .err 4 T) := Lib.hid (by rw [HNO.out, num_none hno])
                       have HF := Lib.hid (fault_any 4 q')
                       unfold faultV at HF
                       clear hpi hno HNO
                       go_wp2_with fail
                       refine HPI.out.mono ?_
                       rintro x w5 ⟨z, TT, NN, rfl, hb5⟩
                       have HR5 : Hid (Rdr w5 rb s q') := Lib.hid (HR.out.below hb5 HR.out.lt)
                       have HK5 := Lib.hid (HK.out.step hb5 HK.out.size)
                       clear hb5 HR HK HPI
                       go_wp2_with fail
                       refine wp_region_held_drew (S := (fun _ => True)) (by kernel_rfl) trivial (fun _ => ?_)
                       refine tk 0 (h := ?_)
                       try simp only [Act.put, List.setIfInBounds_toArray, List.set_cons_zero, List.set_cons_succ]
                       refine tk 1 (h := ?_)
                       try simp only [Act.put, List.setIfInBounds_toArray, List.set_cons_zero, List.set_cons_succ]
                       refine tk 2 (h := ?_)
                       try simp only [Act.put, List.setIfInBounds_toArray, List.set_cons_zero, List.set_cons_succ]
                       refine tks 3 (h := ?_)
                       try simp only [Act.put, List.setIfInBounds_toArray, List.set_cons_zero, List.set_cons_succ]
                       refine tks 4 (h := ?_)
                       try simp only [Act.put, List.setIfInBounds_toArray, List.set_cons_zero, List.set_cons_succ]
                       refine tks 5 (h := ?_)
                       try simp only [Act.put, List.setIfInBounds_toArray, List.set_cons_zero, List.set_cons_succ]
                       refine tks 6 (h := ?_)
                       try simp only [Act.put, List.setIfInBounds_toArray, List.set_cons_zero, List.set_cons_succ]
                       refine tks 7 (h := ?_)
                       try simp only [Act.put, List.setIfInBounds_toArray, List.set_cons_zero, List.set_cons_succ]
                       refine tks 8 (h := ?_)
                       try simp only [Act.put, List.setIfInBounds_toArray, List.set_cons_zero, List.set_cons_succ]
                       refine tk 9 (h := ?_)
                       try simp only [Act.put, List.setIfInBounds_toArray, List.set_cons_zero, List.set_cons_succ]
                       refine wpAnyH_done (by kernel_rfl) ?_ _
                       have HR6 : Hid (Rdr w5.drew rb s q') := Lib.hid HR5.out
                       have HK6 := Lib.hid HK5.out.drew
                       clear HR5 HK5
                       generalize w5.drew = w6 at HR6 HK6 ⊢
                       have c1 := HR6.out.c1
                       go_wp2_with fail
                       refine (HF.out _).mono ?_
                       rintro x w7 ⟨rfl, hb7⟩
                       have HR7 : Hid (Rdr w7 rb s q') := Lib.hid (HR6.out.below hb7 HR6.out.lt)
                       have HK7 := Lib.hid (HK6.out.step hb7 HK6.out.size)
                       clear hb7 c1
                       go_wp2
                       go_ret2
                       rw [HP2.out]
                       exact ⟨_, q', q', rfl, by omega, hq, HR7.out, HK7.out⟩
                      | range =>
                       have hno : ∀ v, Lib.parseIntB 64 mm ≠ .ok v := fun v h => by rw [hpi] at h; cases h
                       have HPI := Lib.hid (parse_bad_any mm HMB.out hno wr (HST.out.rdr HK.out HRB.out))
                       have HP2 : Hid (O = .err 4 T) := Lib.hid (by rw [HNO.out, num_none hno])
                       have HF := Lib.hid (fault_any 4 q')
                       unfold faultV at HF
                       clear hpi hno HNO
                       go_wp2_with fail
                       refine HPI.out.mono ?_
                       rintro x w5 ⟨z, TT, NN, rfl, hb5⟩
                       have HR5 : Hid (Rdr w5 rb s q') := Lib.hid (HR.out.below hb5 HR.out.lt)
                       have HK5 := Lib.hid (HK.out.step hb5 HK.out.size)
                       clear hb5 HR HK HPI
                       go_wp2_with fail
                       refine wp_region_held_drew (S := (fun _ => True)) (by kernel_rfl) trivial (fun _ => ?_)
                       refine tk 0 (h := ?_)
                       try simp only [Act.put, List.setIfInBounds_toArray, List.set_cons_zero, List.set_cons_succ]
                       refine tk 1 (h := ?_)
                       try simp only [Act.put, List.setIfInBounds_toArray, List.set_cons_zero, List.set_cons_succ]
                       refine tk 2 (h := ?_)
                       try simp only [Act.put, List.setIfInBounds_toArray, List.set_cons_zero, List.set_cons_succ]
                       refine tks 3 (h := ?_)
                       try simp only [Act.put, List.setIfInBounds_toArray, List.set_cons_zero, List.set_cons_succ]
                       refine tks 4 (h := ?_)
                       try simp only [Act.put, List.setIfInBounds_toArray, List.set_cons_zero, List.set_cons_succ]
                       refine tks 5 (h := ?_)
                       try simp only [Act.put, List.setIfInBounds_toArray, List.set_cons_zero, List.set_cons_succ]
                       refine tks 6 (h := ?_)
                       try simp only [Act.put, List.setIfInBounds_toArray, List.set_cons_zero, List.set_cons_succ]
                       refine tks 7 (h := ?_)
                       try simp only [Act.put, List.setIfInBounds_toArray, List.set_cons_zero, List.set_cons_succ]
                       refine tks 8 (h := ?_)
                       try simp only [Act.put, List.setIfInBounds_toArray, List.set_cons_zero, List.set_cons_succ]
                       refine tk 9 (h := ?_)
                       try simp only [Act.put, List.setIfInBounds_toArray, List.set_cons_zero, List.set_cons_succ]
                       refine wpAnyH_done (by kernel_rfl) ?_ _
                       have HR6 : Hid (Rdr w5.drew rb s q') := Lib.hid HR5.out
                       have HK6 := Lib.hid HK5.out.drew
                       clear HR5 HK5
                       generalize w5.drew = w6 at HR6 HK6 ⊢
                       have c1 := HR6.out.c1
                       go_wp2_with fail
                       refine (HF.out _).mono ?_
                       rintro x w7 ⟨rfl, hb7⟩
                       have HR7 : Hid (Rdr w7 rb s q') := Lib.hid (HR6.out.below hb7 HR6.out.lt)
                       have HK7 := Lib.hid (HK6.out.step hb7 HK6.out.size)
                       clear hb7 c1
                       go_wp2
                       go_ret2
                       rw [HP2.out]
                       exact ⟨_, q', q', rfl, by omega, hq, HR7.out, HK7.out⟩
               . have h45 : c ≠ 45 := fun e => by rw [e] at h48; exact absurd h48 (by decide)
                 have q4 : ((c.toNat : Int) == 45) = false := b8f h45
                 clear h45
                 have q5 : (48 : Int) ≤ c.toNat := by omega
                 have q6 : (c.toNat : Int) ≤ 57 := by omega
                 clear h48 h57
                 go_upto_region 23 with fail
                 go_wp2_with fail
                 go_loopg [10] (T.length + 1) (fun gk n wr => ∃ k : Nat, k ≤ nlen T /\ T.length - k < gk /\ n = .int .i64 k /\ Hid (Rdr wr rb s q') /\ Hid (Kp w.heap.size (· = rb) w wr))
                 case atStart => exact ⟨0, by omega, by omega, rfl, HR, HK⟩
                 case round =>
                  clear HR HK
                  obtain ⟨k, hk, hgk, rfl, HR, HK⟩ := hrel
                  have hnl := HNL.out
                  have HN := Lib.hid (nlen_step T k hk)
                  by_cases hkn : k < nlen T
                  . obtain ⟨hlt2, hnc⟩ := HN.out.1 hkn
                    have hidx := run_index_list Tryz.underlying9 T k hlt2
                    generalize T.getD k 0 = c2 at hidx hnc
                    have HI := Lib.hid (index_any [48, 49, 50, 51, 52, 53, 54, 55, 56, 57, 45, 43, 46, 101, 69] c2)
                    have q7 := num_idx c2
                    rw [hnc] at q7
                    generalize Lib.indexByte [48, 49, 50, 51, 52, 53, 54, 55, 56, 57, 45, 43, 46, 101, 69] c2 = z at HI q7
                    clear hnc HN
                    go_wp2_with fail
                    refine (HI.out _).mono ?_
                    rintro x w4 ⟨rfl, rfl⟩
                    go_wp2_with fail
                    go_roundg (gk - 1)
                    case measure => omega
                    case rel => exact ⟨k + 1, by omega, by omega, by go_num, HR, HK⟩
                  . obtain rfl : k = nlen T := by omega
                    have HTK := Lib.hid (nlen_take T)
                    have hsl2 := fun wx => run_slice_to_list Tryz.underlying9 T .i64 (nlen T : Int) (nlen T) rfl hnl wx
                    rw [HTK.out] at hsl2
                    have HNO : Hid (O = match numOf (T.takeWhile numc) with
                      | some z => .ok ⟨3, z, [], []⟩ .nil (T.drop (nlen T))
                      | none => .err 4 T) := Lib.hid (by rw [HP.out]; rfl)
                    have hml : (T.takeWhile numc).length = nlen T := rfl
                    have HML := Lib.hid hml
                    have hN := HN.out
                    clear HN hml HTK
                    generalize T.takeWhile numc = mm at hsl2 HNO HML
                    generalize nlen T = L at *
                    have HMB : Hid (mm.length ≤ 4398046511104) := Lib.hid (by rw [HML.out]; omega)
                    (by_cases hlt2 : L < T.length)
                    . have hidx := run_index_list Tryz.underlying9 T L hlt2
                      have hnc : numc (T.getD L 0) = false := by
                       cases hx : numc (T.getD L 0) with
                       | false => rfl
                       | true => exact absurd (hN.2 ⟨hlt2, hx⟩) (by omega)
                      generalize T.getD L 0 = c2 at hidx hnc hN
                      have HI := Lib.hid (index_any [48, 49, 50, 51, 52, 53, 54, 55, 56, 57, 45, 43, 46, 101, 69] c2)
                      have q7 := num_idx c2
                      rw [hnc] at q7
                      generalize Lib.indexByte [48, 49, 50, 51, 52, 53, 54, 55, 56, 57, 45, 43, 46, 101, 69] c2 = z at HI q7
                      clear hnc hN hkn
                      go_wp2_with fail
                      refine (HI.out _).mono ?_
                      rintro x w4 ⟨rfl, rfl⟩
                      go_upto_region 26 with fail
                      cases hpi : Lib.parseIntB 64 mm with
                      | ok z =>
                       have HPI := Lib.hid (parse_ok_any mm HMB.out z hpi)
                       have hnp := num_parse hpi
                       have hbd := Lib.parseIntB_bounds hpi
                       have HFM : Hid (∀ wx, St wx -> Calls Tryz.prog 153 #[.int .i64 z, .int .i64 10] wx fun x w' => x = .returned (.string ⟨(decI z).toArray⟩) /\ Below wx.heap.size wx w') := Lib.hid (fun wx h => format_any z (by simp at hbd; omega) (by simp at hbd; omega) wx h)
                       rw [show Lib.itoa z = decI z from rfl] at hnp
                       clear hbd hpi
                       go_wp2_with fail
                       refine (HPI.out _).mono ?_
                       rintro x w5 ⟨rfl, hb5⟩
                       have HR5 : Hid (Rdr w5 rb s q') := Lib.hid (HR.out.below hb5 HR.out.lt)
                       have HK5 := Lib.hid (HK.out.step hb5 HK.out.size)
                       have HS5 := Lib.hid (HST.out.rdr HK5.out HRB.out)
                       clear hb5 HR HK HPI
                       by_cases hz : decI z = mm
                       . rw [if_pos hz] at hnp
                         have HP2 : Hid (O = .ok ⟨3, z, [], []⟩ .nil (T.drop L)) := Lib.hid (by rw [HNO.out, hnp])
                         rw [hz] at HFM
                         have hc2 := fun wx => neq_texts mm mm wx
                         rw [decide_eq_false (by simp)] at hc2
                         clear hz hnp HNO
                         go_upto_region 27 with fail
                         go_cut [139] (fun zz wx => zz = .bool false /\ Hid (Below w5.heap.size w5 wx))
                         case first =>
                          refine wp_region_held_drew (S := (fun _ => True)) (by kernel_rfl) trivial (fun _ => ?_)
                          refine tk 0 (h := ?_)
                          try simp only [Act.put, List.setIfInBounds_toArray, List.set_cons_zero, List.set_cons_succ]
                          refine tk 1 (h := ?_)
                          try simp only [Act.put, List.setIfInBounds_toArray, List.set_cons_zero, List.set_cons_succ]
                          refine tk 2 (h := ?_)
                          try simp only [Act.put, List.setIfInBounds_toArray, List.set_cons_zero, List.set_cons_succ]
                          refine tk 3 (h := ?_)
                          try simp only [Act.put, List.setIfInBounds_toArray, List.set_cons_zero, List.set_cons_succ]
                          refine tk 5 (h := ?_)
                          try simp only [Act.put, List.setIfInBounds_toArray, List.set_cons_zero, List.set_cons_succ]
                          refine tk 6 (h := ?_)
                          try simp only [Act.put, List.setIfInBounds_toArray, List.set_cons_zero, List.set_cons_succ]
                          refine tk 7 (h := ?_)
                          try simp only [Act.put, List.setIfInBounds_toArray, List.set_cons_zero, List.set_cons_succ]
                          refine wpAnyH_ready (rs := [4]) (by kernel_rfl) (by simp) ?_
                          refine rdy (fun K hK => ?_) AllReadyH.nil
                          rw [if_pos (by rfl)]
                          go_simp
                          refine (HFM.out _ HS5.out.drew).mono ?_
                          rintro x w6 ⟨rfl, hb6⟩
                          refine hK.out _ _ trivial (fun _ => ?_)
                          clear hK
                          try simp only [Act.put, List.setIfInBounds_toArray, List.set_cons_zero, List.set_cons_succ]
                          refine tk 8 (h := ?_)
                          try simp only [Act.put, List.setIfInBounds_toArray, List.set_cons_zero, List.set_cons_succ]
                          refine tk 9 (h := ?_)
                          try simp only [Act.put, List.setIfInBounds_toArray, List.set_cons_zero, List.set_cons_succ]
                          refine wpAnyH_done (by kernel_rfl) ?_ _
                          go_wp2_with fail
                          go_meet
                          exact ⟨by simp, Lib.hid (((Below.refl _ _).drew).trans hb6)⟩
                         case rest =>
                          obtain ⟨rfl, HB6⟩ := hcut
                          have HR6 : Hid (Rdr wc rb s q') := Lib.hid (HR5.out.below HB6.out HR5.out.lt)
                          have HK6 := Lib.hid (HK5.out.step HB6.out HK5.out.size)
                          clear HR5 HK5 HB6
                          have c1 := HR6.out.c1
                          have f1 := Blk.frozen HR6.out 1
                          go_wp2
                          go_ret2
                          rw [HP2.out]
                          exact ⟨_, q' + L, fun _ => False, rfl, tv_num _ _, fun _ h => h.elim, by omega, by rw [<- HD.out, List.drop_drop], HR6.out.to (q' + L) _ (by omega), HK6.out.rdr _⟩
                       . rw [if_neg hz] at hnp
                         have HP2 : Hid (O = .err 4 T) := Lib.hid (by rw [HNO.out, hnp])
                         have HZ := Lib.hid hz
                         have HF := Lib.hid (fault_any 4 q')
                         unfold faultV at HF
                         generalize decI z = dz at HFM HZ
                         clear hnp HNO hz
                         go_upto_region 27 with fail
                         go_cut [139] (fun zz wx => zz = .bool true /\ Hid (Below w5.heap.size w5 wx))
                         case first =>
                          refine wp_region_held_drew (S := (fun _ => True)) (by kernel_rfl) trivial (fun _ => ?_)
                          refine tk 0 (h := ?_)
                          try simp only [Act.put, List.setIfInBounds_toArray, List.set_cons_zero, List.set_cons_succ]
                          refine tk 1 (h := ?_)
                          try simp only [Act.put, List.setIfInBounds_toArray, List.set_cons_zero, List.set_cons_succ]
                          refine tk 2 (h := ?_)
                          try simp only [Act.put, List.setIfInBounds_toArray, List.set_cons_zero, List.set_cons_succ]
                          refine tk 3 (h := ?_)
                          try simp only [Act.put, List.setIfInBounds_toArray, List.set_cons_zero, List.set_cons_succ]
                          refine tk 5 (h := ?_)
                          try simp only [Act.put, List.setIfInBounds_toArray, List.set_cons_zero, List.set_cons_succ]
                          refine tk 6 (h := ?_)
                          try simp only [Act.put, List.setIfInBounds_toArray, List.set_cons_zero, List.set_cons_succ]
                          refine tk 7 (h := ?_)
                          try simp only [Act.put, List.setIfInBounds_toArray, List.set_cons_zero, List.set_cons_succ]
                          refine wpAnyH_ready (rs := [4]) (by kernel_rfl) (by simp) ?_
                          refine rdy (fun K hK => ?_) AllReadyH.nil
                          rw [if_pos (by rfl)]
                          go_simp
                          refine (HFM.out _ HS5.out.drew).mono ?_
                          rintro x w6 ⟨rfl, hb6⟩
                          refine hK.out _ _ trivial (fun _ => ?_)
                          clear hK
                          try simp only [Act.put, List.setIfInBounds_toArray, List.set_cons_zero, List.set_cons_succ]
                          refine tk 8 (h := ?_)
                          try simp only [Act.put, List.setIfInBounds_toArray, List.set_cons_zero, List.set_cons_succ]
                          refine tk 9 (h := ?_)
                          try simp only [Act.put, List.setIfInBounds_toArray, List.set_cons_zero, List.set_cons_succ]
                          refine wpAnyH_done (by kernel_rfl) ?_ _
                          go_wp2_with fail
                          go_meet
                          exact ⟨by simp [HZ.out], Lib.hid (((Below.refl _ _).drew).trans hb6)⟩
                         case rest =>
                          obtain ⟨rfl, HB6⟩ := hcut
                          have HR6 : Hid (Rdr wc rb s q') := Lib.hid (HR5.out.below HB6.out HR5.out.lt)
                          have HK6 := Lib.hid (HK5.out.step HB6.out HK5.out.size)
                          clear HR5 HK5 HB6
                          have c1 := HR6.out.c1
                          go_wp2_with fail
                          refine (HF.out _).mono ?_
                          rintro x w7 ⟨rfl, hb7⟩
                          have HR7 : Hid (Rdr w7 rb s q') := Lib.hid (HR6.out.below hb7 HR6.out.lt)
                          have HK7 := Lib.hid (HK6.out.step hb7 HK6.out.size)
                          clear hb7 c1
                          go_wp2
                          go_ret2
                          rw [HP2.out]
                          exact ⟨_, q', q', rfl, by omega, hq, HR7.out, HK7.out⟩
                      | «syntax» =>
                       have hno : ∀ v, Lib.parseIntB 64 mm ≠ .ok v := fun v h => by rw [hpi] at h; cases h
                       have HPI := Lib.hid (parse_bad_any mm HMB.out hno wr (HST.out.rdr HK.out HRB.out))
                       have HP2 : Hid (O = .err 4 T) := Lib.hid (by rw [HNO.out, num_none hno])
                       have HF := Lib.hid (fault_any 4 q')
                       unfold faultV at HF
                       clear hpi hno HNO
                       go_wp2_with fail
                       refine HPI.out.mono ?_
                       rintro x w5 ⟨z, TT, NN, rfl, hb5⟩
                       have HR5 : Hid (Rdr w5 rb s q') := Lib.hid (HR.out.below hb5 HR.out.lt)
                       have HK5 := Lib.hid (HK.out.step hb5 HK.out.size)
                       clear hb5 HR HK HPI
                       go_wp2_with fail
                       refine wp_region_held_drew (S := (fun _ => True)) (by kernel_rfl) trivial (fun _ => ?_)
                       refine tk 0 (h := ?_)
                       try simp only [Act.put, List.setIfInBounds_toArray, List.set_cons_zero, List.set_cons_succ]
                       refine tk 1 (h := ?_)
                       try simp only [Act.put, List.setIfInBounds_toArray, List.set_cons_zero, List.set_cons_succ]
                       refine tk 2 (h := ?_)
                       try simp only [Act.put, List.setIfInBounds_toArray, List.set_cons_zero, List.set_cons_succ]
                       refine tks 3 (h := ?_)
                       try simp only [Act.put, List.setIfInBounds_toArray, List.set_cons_zero, List.set_cons_succ]
                       refine tks 4 (h := ?_)
                       try simp only [Act.put, List.setIfInBounds_toArray, List.set_cons_zero, List.set_cons_succ]
                       refine tks 5 (h := ?_)
                       try simp only [Act.put, List.setIfInBounds_toArray, List.set_cons_zero, List.set_cons_succ]
                       refine tks 6 (h := ?_)
                       try simp only [Act.put, List.setIfInBounds_toArray, List.set_cons_zero, List.set_cons_succ]
                       refine tks 7 (h := ?_)
                       try simp only [Act.put, List.setIfInBounds_toArray, List.set_cons_zero, List.set_cons_succ]
                       refine tks 8 (h := ?_)
                       try simp only [Act.put, List.setIfInBounds_toArray, List.set_cons_zero, List.set_cons_succ]
                       refine tk 9 (h := ?_)
                       try simp only [Act.put, List.setIfInBounds_toArray, List.set_cons_zero, List.set_cons_succ]
                       refine wpAnyH_done (by kernel_rfl) ?_ _
                       have HR6 : Hid (Rdr w5.drew rb s q') := Lib.hid HR5.out
                       have HK6 := Lib.hid HK5.out.drew
                       clear HR5 HK5
                       generalize w5.drew = w6 at HR6 HK6 ⊢
                       have c1 := HR6.out.c1
                       go_wp2_with fail
                       refine (HF.out _).mono ?_
                       rintro x w7 ⟨rfl, hb7⟩
                       have HR7 : Hid (Rdr w7 rb s q') := Lib.hid (HR6.out.below hb7 HR6.out.lt)
                       have HK7 := Lib.hid (HK6.out.step hb7 HK6.out.size)
                       clear hb7 c1
                       go_wp2
                       go_ret2
                       rw [HP2.out]
                       exact ⟨_, q', q', rfl, by omega, hq, HR7.out, HK7.out⟩
                      | range =>
                       have hno : ∀ v, Lib.parseIntB 64 mm ≠ .ok v := fun v h => by rw [hpi] at h; cases h
                       have HPI := Lib.hid (parse_bad_any mm HMB.out hno wr (HST.out.rdr HK.out HRB.out))
                       have HP2 : Hid (O = .err 4 T) := Lib.hid (by rw [HNO.out, num_none hno])
                       have HF := Lib.hid (fault_any 4 q')
                       unfold faultV at HF
                       clear hpi hno HNO
                       go_wp2_with fail
                       refine HPI.out.mono ?_
                       rintro x w5 ⟨z, TT, NN, rfl, hb5⟩
                       have HR5 : Hid (Rdr w5 rb s q') := Lib.hid (HR.out.below hb5 HR.out.lt)
                       have HK5 := Lib.hid (HK.out.step hb5 HK.out.size)
                       clear hb5 HR HK HPI
                       go_wp2_with fail
                       refine wp_region_held_drew (S := (fun _ => True)) (by kernel_rfl) trivial (fun _ => ?_)
                       refine tk 0 (h := ?_)
                       try simp only [Act.put, List.setIfInBounds_toArray, List.set_cons_zero, List.set_cons_succ]
                       refine tk 1 (h := ?_)
                       try simp only [Act.put, List.setIfInBounds_toArray, List.set_cons_zero, List.set_cons_succ]
                       refine tk 2 (h := ?_)
                       try simp only [Act.put, List.setIfInBounds_toArray, List.set_cons_zero, List.set_cons_succ]
                       refine tks 3 (h := ?_)
                       try simp only [Act.put, List.setIfInBounds_toArray, List.set_cons_zero, List.set_cons_succ]
                       refine tks 4 (h := ?_)
                       try simp only [Act.put, List.setIfInBounds_toArray, List.set_cons_zero, List.set_cons_succ]
                       refine tks 5 (h := ?_)
                       try simp only [Act.put, List.setIfInBounds_toArray, List.set_cons_zero, List.set_cons_succ]
                       refine tks 6 (h := ?_)
                       try simp only [Act.put, List.setIfInBounds_toArray, List.set_cons_zero, List.set_cons_succ]
                       refine tks 7 (h := ?_)
                       try simp only [Act.put, List.setIfInBounds_toArray, List.set_cons_zero, List.set_cons_succ]
                       refine tks 8 (h := ?_)
                       try simp only [Act.put, List.setIfInBounds_toArray, List.set_cons_zero, List.set_cons_succ]
                       refine tk 9 (h := ?_)
                       try simp only [Act.put, List.setIfInBounds_toArray, List.set_cons_zero, List.set_cons_succ]
                       refine wpAnyH_done (by kernel_rfl) ?_ _
                       have HR6 : Hid (Rdr w5.drew rb s q') := Lib.hid HR5.out
                       have HK6 := Lib.hid HK5.out.drew
                       clear HR5 HK5
                       generalize w5.drew = w6 at HR6 HK6 ⊢
                       have c1 := HR6.out.c1
                       go_wp2_with fail
                       refine (HF.out _).mono ?_
                       rintro x w7 ⟨rfl, hb7⟩
                       have HR7 : Hid (Rdr w7 rb s q') := Lib.hid (HR6.out.below hb7 HR6.out.lt)
                       have HK7 := Lib.hid (HK6.out.step hb7 HK6.out.size)
                       clear hb7 c1
                       go_wp2
                       go_ret2
                       rw [HP2.out]
                       exact ⟨_, q', q', rfl, by omega, hq, HR7.out, HK7.out⟩
                    . clear hN hkn
                      go_upto_region 26 with fail
                      cases hpi : Lib.parseIntB 64 mm with
                      | ok z =>
                       have HPI := Lib.hid (parse_ok_any mm HMB.out z hpi)
                       have hnp := num_parse hpi
                       have hbd := Lib.parseIntB_bounds hpi
                       have HFM : Hid (∀ wx, St wx -> Calls Tryz.prog 153 #[.int .i64 z, .int .i64 10] wx fun x w' => x = .returned (.string ⟨(decI z).toArray⟩) /\ Below wx.heap.size wx w') := Lib.hid (fun wx h => format_any z (by simp at hbd; omega) (by simp at hbd; omega) wx h)
                       rw [show Lib.itoa z = decI z from rfl] at hnp
                       clear hbd hpi
                       go_wp2_with fail
                       refine (HPI.out _).mono ?_
                       rintro x w5 ⟨rfl, hb5⟩
                       have HR5 : Hid (Rdr w5 rb s q') := Lib.hid (HR.out.below hb5 HR.out.lt)
                       have HK5 := Lib.hid (HK.out.step hb5 HK.out.size)
                       have HS5 := Lib.hid (HST.out.rdr HK5.out HRB.out)
                       clear hb5 HR HK HPI
                       by_cases hz : decI z = mm
                       . rw [if_pos hz] at hnp
                         have HP2 : Hid (O = .ok ⟨3, z, [], []⟩ .nil (T.drop L)) := Lib.hid (by rw [HNO.out, hnp])
                         rw [hz] at HFM
                         have hc2 := fun wx => neq_texts mm mm wx
                         rw [decide_eq_false (by simp)] at hc2
                         clear hz hnp HNO
                         go_upto_region 27 with fail
                         go_cut [139] (fun zz wx => zz = .bool false /\ Hid (Below w5.heap.size w5 wx))
                         case first =>
                          refine wp_region_held_drew (S := (fun _ => True)) (by kernel_rfl) trivial (fun _ => ?_)
                          refine tk 0 (h := ?_)
                          try simp only [Act.put, List.setIfInBounds_toArray, List.set_cons_zero, List.set_cons_succ]
                          refine tk 1 (h := ?_)
                          try simp only [Act.put, List.setIfInBounds_toArray, List.set_cons_zero, List.set_cons_succ]
                          refine tk 2 (h := ?_)
                          try simp only [Act.put, List.setIfInBounds_toArray, List.set_cons_zero, List.set_cons_succ]
                          refine tk 3 (h := ?_)
                          try simp only [Act.put, List.setIfInBounds_toArray, List.set_cons_zero, List.set_cons_succ]
                          refine tk 5 (h := ?_)
                          try simp only [Act.put, List.setIfInBounds_toArray, List.set_cons_zero, List.set_cons_succ]
                          refine tk 6 (h := ?_)
                          try simp only [Act.put, List.setIfInBounds_toArray, List.set_cons_zero, List.set_cons_succ]
                          refine tk 7 (h := ?_)
                          try simp only [Act.put, List.setIfInBounds_toArray, List.set_cons_zero, List.set_cons_succ]
                          refine wpAnyH_ready (rs := [4]) (by kernel_rfl) (by simp) ?_
                          refine rdy (fun K hK => ?_) AllReadyH.nil
                          rw [if_pos (by rfl)]
                          go_simp
                          refine (HFM.out _ HS5.out.drew).mono ?_
                          rintro x w6 ⟨rfl, hb6⟩
                          refine hK.out _ _ trivial (fun _ => ?_)
                          clear hK
                          try simp only [Act.put, List.setIfInBounds_toArray, List.set_cons_zero, List.set_cons_succ]
                          refine tk 8 (h := ?_)
                          try simp only [Act.put, List.setIfInBounds_toArray, List.set_cons_zero, List.set_cons_succ]
                          refine tk 9 (h := ?_)
                          try simp only [Act.put, List.setIfInBounds_toArray, List.set_cons_zero, List.set_cons_succ]
                          refine wpAnyH_done (by kernel_rfl) ?_ _
                          go_wp2_with fail
                          go_meet
                          exact ⟨by simp, Lib.hid (((Below.refl _ _).drew).trans hb6)⟩
                         case rest =>
                          obtain ⟨rfl, HB6⟩ := hcut
                          have HR6 : Hid (Rdr wc rb s q') := Lib.hid (HR5.out.below HB6.out HR5.out.lt)
                          have HK6 := Lib.hid (HK5.out.step HB6.out HK5.out.size)
                          clear HR5 HK5 HB6
                          have c1 := HR6.out.c1
                          have f1 := Blk.frozen HR6.out 1
                          go_wp2
                          go_ret2
                          rw [HP2.out]
                          exact ⟨_, q' + L, fun _ => False, rfl, tv_num _ _, fun _ h => h.elim, by omega, by rw [<- HD.out, List.drop_drop], HR6.out.to (q' + L) _ (by omega), HK6.out.rdr _⟩
                       . rw [if_neg hz] at hnp
                         have HP2 : Hid (O = .err 4 T) := Lib.hid (by rw [HNO.out, hnp])
                         have HZ := Lib.hid hz
                         have HF := Lib.hid (fault_any 4 q')
                         unfold faultV at HF
                         generalize decI z = dz at HFM HZ
                         clear hnp HNO hz
                         go_upto_region 27 with fail
                         go_cut [139] (fun zz wx => zz = .bool true /\ Hid (Below w5.heap.size w5 wx))
                         case first =>
                          refine wp_region_held_drew (S := (fun _ => True)) (by kernel_rfl) trivial (fun _ => ?_)
                          refine tk 0 (h := ?_)
                          try simp only [Act.put, List.setIfInBounds_toArray, List.set_cons_zero, List.set_cons_succ]
                          refine tk 1 (h := ?_)
                          try simp only [Act.put, List.setIfInBounds_toArray, List.set_cons_zero, List.set_cons_succ]
                          refine tk 2 (h := ?_)
                          try simp only [Act.put, List.setIfInBounds_toArray, List.set_cons_zero, List.set_cons_succ]
                          refine tk 3 (h := ?_)
                          try simp only [Act.put, List.setIfInBounds_toArray, List.set_cons_zero, List.set_cons_succ]
                          refine tk 5 (h := ?_)
                          try simp only [Act.put, List.setIfInBounds_toArray, List.set_cons_zero, List.set_cons_succ]
                          refine tk 6 (h := ?_)
                          try simp only [Act.put, List.setIfInBounds_toArray, List.set_cons_zero, List.set_cons_succ]
                          refine tk 7 (h := ?_)
                          try simp only [Act.put, List.setIfInBounds_toArray, List.set_cons_zero, List.set_cons_succ]
                          refine wpAnyH_ready (rs := [4]) (by kernel_rfl) (by simp) ?_
                          refine rdy (fun K hK => ?_) AllReadyH.nil
                          rw [if_pos (by rfl)]
                          go_simp
                          refine (HFM.out _ HS5.out.drew).mono ?_
                          rintro x w6 ⟨rfl, hb6⟩
                          refine hK.out _ _ trivial (fun _ => ?_)
                          clear hK
                          try simp only [Act.put, List.setIfInBounds_toArray, List.set_cons_zero, List.set_cons_succ]
                          refine tk 8 (h := ?_)
                          try simp only [Act.put, List.setIfInBounds_toArray, List.set_cons_zero, List.set_cons_succ]
                          refine tk 9 (h := ?_)
                          try simp only [Act.put, List.setIfInBounds_toArray, List.set_cons_zero, List.set_cons_succ]
                          refine wpAnyH_done (by kernel_rfl) ?_ _
                          go_wp2_with fail
                          go_meet
                          exact ⟨by simp [HZ.out], Lib.hid (((Below.refl _ _).drew).trans hb6)⟩
                         case rest =>
                          obtain ⟨rfl, HB6⟩ := hcut
                          have HR6 : Hid (Rdr wc rb s q') := Lib.hid (HR5.out.below HB6.out HR5.out.lt)
                          have HK6 := Lib.hid (HK5.out.step HB6.out HK5.out.size)
                          clear HR5 HK5 HB6
                          have c1 := HR6.out.c1
                          go_wp2_with fail
                          refine (HF.out _).mono ?_
                          rintro x w7 ⟨rfl, hb7⟩
                          have HR7 : Hid (Rdr w7 rb s q') := Lib.hid (HR6.out.below hb7 HR6.out.lt)
                          have HK7 := Lib.hid (HK6.out.step hb7 HK6.out.size)
                          clear hb7 c1
                          go_wp2
                          go_ret2
                          rw [HP2.out]
                          exact ⟨_, q', q', rfl, by omega, hq, HR7.out, HK7.out⟩
                      | «syntax» =>
                       have hno : ∀ v, Lib.parseIntB 64 mm ≠ .ok v := fun v h => by rw [hpi] at h; cases h
                       have HPI := Lib.hid (parse_bad_any mm HMB.out hno wr (HST.out.rdr HK.out HRB.out))
                       have HP2 : Hid (O = .err 4 T) := Lib.hid (by rw [HNO.out, num_none hno])
                       have HF := Lib.hid (fault_any 4 q')
                       unfold faultV at HF
                       clear hpi hno HNO
                       go_wp2_with fail
                       refine HPI.out.mono ?_
                       rintro x w5 ⟨z, TT, NN, rfl, hb5⟩
                       have HR5 : Hid (Rdr w5 rb s q') := Lib.hid (HR.out.below hb5 HR.out.lt)
                       have HK5 := Lib.hid (HK.out.step hb5 HK.out.size)
                       clear hb5 HR HK HPI
                       go_wp2_with fail
                       refine wp_region_held_drew (S := (fun _ => True)) (by kernel_rfl) trivial (fun _ => ?_)
                       refine tk 0 (h := ?_)
                       try simp only [Act.put, List.setIfInBounds_toArray, List.set_cons_zero, List.set_cons_succ]
                       refine tk 1 (h := ?_)
                       try simp only [Act.put, List.setIfInBounds_toArray, List.set_cons_zero, List.set_cons_succ]
                       refine tk 2 (h := ?_)
                       try simp only [Act.put, List.setIfInBounds_toArray, List.set_cons_zero, List.set_cons_succ]
                       refine tks 3 (h := ?_)
                       try simp only [Act.put, List.setIfInBounds_toArray, List.set_cons_zero, List.set_cons_succ]
                       refine tks 4 (h := ?_)
                       try simp only [Act.put, List.setIfInBounds_toArray, List.set_cons_zero, List.set_cons_succ]
                       refine tks 5 (h := ?_)
                       try simp only [Act.put, List.setIfInBounds_toArray, List.set_cons_zero, List.set_cons_succ]
                       refine tks 6 (h := ?_)
                       try simp only [Act.put, List.setIfInBounds_toArray, List.set_cons_zero, List.set_cons_succ]
                       refine tks 7 (h := ?_)
                       try simp only [Act.put, List.setIfInBounds_toArray, List.set_cons_zero, List.set_cons_succ]
                       refine tks 8 (h := ?_)
                       try simp only [Act.put, List.setIfInBounds_toArray, List.set_cons_zero, List.set_cons_succ]
                       refine tk 9 (h := ?_)
                       try simp only [Act.put, List.setIfInBounds_toArray, List.set_cons_zero, List.set_cons_succ]
                       refine wpAnyH_done (by kernel_rfl) ?_ _
                       have HR6 : Hid (Rdr w5.drew rb s q') := Lib.hid HR5.out
                       have HK6 := Lib.hid HK5.out.drew
                       clear HR5 HK5
                       generalize w5.drew = w6 at HR6 HK6 ⊢
                       have c1 := HR6.out.c1
                       go_wp2_with fail
                       refine (HF.out _).mono ?_
                       rintro x w7 ⟨rfl, hb7⟩
                       have HR7 : Hid (Rdr w7 rb s q') := Lib.hid (HR6.out.below hb7 HR6.out.lt)
                       have HK7 := Lib.hid (HK6.out.step hb7 HK6.out.size)
                       clear hb7 c1
                       go_wp2
                       go_ret2
                       rw [HP2.out]
                       exact ⟨_, q', q', rfl, by omega, hq, HR7.out, HK7.out⟩
                      | range =>
                       have hno : ∀ v, Lib.parseIntB 64 mm ≠ .ok v := fun v h => by rw [hpi] at h; cases h
                       have HPI := Lib.hid (parse_bad_any mm HMB.out hno wr (HST.out.rdr HK.out HRB.out))
                       have HP2 : Hid (O = .err 4 T) := Lib.hid (by rw [HNO.out, num_none hno])
                       have HF := Lib.hid (fault_any 4 q')
                       unfold faultV at HF
                       clear hpi hno HNO
                       go_wp2_with fail
                       refine HPI.out.mono ?_
                       rintro x w5 ⟨z, TT, NN, rfl, hb5⟩
                       have HR5 : Hid (Rdr w5 rb s q') := Lib.hid (HR.out.below hb5 HR.out.lt)
                       have HK5 := Lib.hid (HK.out.step hb5 HK.out.size)
                       clear hb5 HR HK HPI
                       go_wp2_with fail
                       refine wp_region_held_drew (S := (fun _ => True)) (by kernel_rfl) trivial (fun _ => ?_)
                       refine tk 0 (h := ?_)
                       try simp only [Act.put, List.setIfInBounds_toArray, List.set_cons_zero, List.set_cons_succ]
                       refine tk 1 (h := ?_)
                       try simp only [Act.put, List.setIfInBounds_toArray, List.set_cons_zero, List.set_cons_succ]
                       refine tk 2 (h := ?_)
                       try simp only [Act.put, List.setIfInBounds_toArray, List.set_cons_zero, List.set_cons_succ]
                       refine tks 3 (h := ?_)
                       try simp only [Act.put, List.setIfInBounds_toArray, List.set_cons_zero, List.set_cons_succ]
                       refine tks 4 (h := ?_)
                       try simp only [Act.put, List.setIfInBounds_toArray, List.set_cons_zero, List.set_cons_succ]
                       refine tks 5 (h := ?_)
                       try simp only [Act.put, List.setIfInBounds_toArray, List.set_cons_zero, List.set_cons_succ]
                       refine tks 6 (h := ?_)
                       try simp only [Act.put, List.setIfInBounds_toArray, List.set_cons_zero, List.set_cons_succ]
                       refine tks 7 (h := ?_)
                       try simp only [Act.put, List.setIfInBounds_toArray, List.set_cons_zero, List.set_cons_succ]
                       refine tks 8 (h := ?_)
                       try simp only [Act.put, List.setIfInBounds_toArray, List.set_cons_zero, List.set_cons_succ]
                       refine tk 9 (h := ?_)
                       try simp only [Act.put, List.setIfInBounds_toArray, List.set_cons_zero, List.set_cons_succ]
                       refine wpAnyH_done (by kernel_rfl) ?_ _
                       have HR6 : Hid (Rdr w5.drew rb s q') := Lib.hid HR5.out
                       have HK6 := Lib.hid HK5.out.drew
                       clear HR5 HK5
                       generalize w5.drew = w6 at HR6 HK6 ⊢
                       have c1 := HR6.out.c1
                       go_wp2_with fail
                       refine (HF.out _).mono ?_
                       rintro x w7 ⟨rfl, hb7⟩
                       have HR7 : Hid (Rdr w7 rb s q') := Lib.hid (HR6.out.below hb7 HR6.out.lt)
                       have HK7 := Lib.hid (HK6.out.step hb7 HK6.out.size)
                       clear hb7 c1
                       go_wp2
                       go_ret2
                       rw [HP2.out]
                       exact ⟨_, q', q', rfl, by omega, hq, HR7.out, HK7.out⟩
             . have HP : Hid (O = .err 4 T) := Lib.hid (HA1.out _ (by rw [HAR.out, if_neg h34, if_neg (by rintro (h | h); exact h91 h; exact h123 h), if_neg hnum]))
               have q4 : ((c.toNat : Int) == 45) = false := b8f (fun e => hnum (.inl e))
               have hF := fault_any 4 q'
               have HF := Lib.hid hF
               unfold faultV at HF
               clear hF HAR HA1 HA2 h34 h91 h123
               have c1 := HR.out.c1
               by_cases h48 : (48 : Int) ≤ c.toNat
               . have h57 : ¬ (c.toNat : Int) ≤ 57 := fun h => hnum (.inr ⟨by omega, by omega⟩)
                 clear hnum
                 go_wp2_with fail
                 refine (HF.out _).mono ?_
                 rintro x w5 ⟨rfl, hb5⟩
                 have HR5 : Hid (Rdr w5 rb s q') := Lib.hid (HR.out.below hb5 HR.out.lt)
                 have HK5 := Lib.hid (HK.out.step hb5 HK.out.size)
                 clear hb5 c1
                 go_wp2
                 go_ret2
                 rw [HP.out]
                 exact ⟨_, q', q', rfl, by omega, hq, HR5.out, HK5.out⟩
               . clear hnum
                 go_wp2_with fail
                 refine (HF.out _).mono ?_
                 rintro x w5 ⟨rfl, hb5⟩
                 have HR5 : Hid (Rdr w5 rb s q') := Lib.hid (HR.out.below hb5 HR.out.lt)
                 have HK5 := Lib.hid (HK.out.step hb5 HK.out.size)
                 clear hb5 c1
                 go_wp2
                 go_ret2
                 rw [HP.out]
                 exact ⟨_, q', q', rfl, by omega, hq, HR5.out, HK5.out⟩
-- >
end Js
end Go.Proofs.YtjohdaobhonioaaGreatDoor
