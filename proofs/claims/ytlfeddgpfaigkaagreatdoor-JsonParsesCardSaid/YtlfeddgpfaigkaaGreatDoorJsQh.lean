/-
  The walk of the document's Reader (strataref04): items.
-/
import Derived.Test.YtlfeddgpfaigkaaGreatDoorJsQg
import Derived.Test.YtlfeddgpfaigkaaGreatDoorJsWx
namespace Go.Proofs.YtlfeddgpfaigkaaGreatDoor
open Go.RowKit
namespace Js
/-- Values that were read ahead. -/
def Out.pre (f : F) : Out → Out
  | .err no r => .err no r
  | .ok h k r => .ok h (f.app k) r
theorem out_pre_pre (f g : F) (o : Out) : (o.pre f).pre g = o.pre (g.app f) := by cases o <;> simp [Out.pre, F.app_assoc]
theorem out_pre_nil (o : Out) : o.pre .nil = o := by cases o <;> rfl
theorem consL_pre (h : Hd) (k : F) (o : Out) : o.consL h k = o.pre (.cons h k .nil) := by cases o <;> rfl
/-- The reader stands behind what was read, or tells what is wrong. -/
def AgV (rb : Nat) (s : List UInt8) (w : World) (o : Out) (h : Hd) (k : F) : Prop :=
  (∃ j wh, j ≤ s.length ∧ o = .ok h k (s.drop j) ∧ Rb w rb s j 0 wh) ∨ (∃ no r j, 1 ≤ no ∧ j ≤ s.length ∧ o = .err no r ∧ Rb w rb s j no (s.length - r.length))
/-- What a call has made. -/
def FrR (w w' : World) (b : Nat) : Prop := w.heap.size ≤ b ∧ b < w'.heap.size
/-- What value leaves. -/
def VlP (rb : Nat) (s : List UInt8) (i d : Nat) (w : World) (x : Ending) (w' : World) : Prop :=
  ∃ h k A c A' c', x = .returned (.agg #[.int .i64 h.kind, .int .i64 h.num, .string ⟨h.text.toArray⟩, .slice A k.len c, .slice A' h.keys.length c']) ∧ TV encJ w' (FrR w w') h k (jcells h (.slice A k.len c) (.slice A' h.keys.length c')) ∧ KR rb w w' ∧ AgV rb s w' (val d (s.drop i)) h k
def VlC (rb : Nat) (s : List UInt8) (n : Nat) : Prop := ∀ (i d wh : Nat) (w : World), i ≤ s.length → s.length - i ≤ n → d ≤ 33 → Rb w rb s i 0 wh →
  Calls Tryz.prog 46 #[.pointer (some ⟨rb, 0, none⟩), .int .i64 (d : Nat)] w (VlP rb s i d w)
/-- What items leaves. -/
def ItP (rb : Nat) (s : List UInt8) (i d : Nat) (w : World) (x : Ending) (w' : World) : Prop :=
  ∃ v f, x = .returned v ∧ f.len ≤ s.length ∧ TL encJ w' w.heap.size (fun _ => False) 25 v f ∧ KR rb w w' ∧ AgV rb s w' (listO d (s.drop i)) (plainH 5) f
def ItC (rb : Nat) (s : List UInt8) (n : Nat) : Prop := ∀ (i d wh : Nat) (w : World), i ≤ s.length → s.length - i ≤ n → d ≤ 32 → Rb w rb s i 0 wh →
  Calls Tryz.prog 109 #[.pointer (some ⟨rb, 0, none⟩), .int .i64 (d : Nat)] w (ItP rb s i d w)
theorem tl_kr {rb B : Nat} {w w1 : World} {v : Value} {f : F} (h : TL encJ w B (fun _ => False) 25 v f) (k : KR rb w w1) (hB : rb < B) (hs : B ≤ w.heap.size) : TL encJ w1 B (fun _ => False) 25 v f :=
  TL.kp h k hs (Nat.le_refl _) (fun b h1 _ e => by omega) (fun _ h => h.elim)
theorem len_drop {s : List UInt8} {j : Nat} (h : j ≤ s.length) : s.length - (s.drop j).length = j := by rw [List.length_drop]; omega
/-- A list that is being read. -/
def ItR (rb : Nat) (s : List UInt8) (i d : Nat) (w : World) (gk : Nat) (v : Value) (wr : World) : Prop :=
  ∃ f j wh, j ≤ s.length ∧ i ≤ j ∧ s.length - j < gk ∧ f.len ≤ j ∧ TL encJ wr w.heap.size (fun _ => False) 25 v f ∧ KR rb w wr ∧ Rb wr rb s j 0 wh ∧ listO d (s.drop i) = (items d (s.drop j)).pre f
theorem opn_bl {c : UInt8} {t : List UInt8} (h : isC c t = false) : opn c t = none := by
  unfold isC at h; unfold opn
  cases hb : bl t with
  | nil => rfl
  | cons d r => rw [hb] at h; simp only at h ⊢; rw [if_neg (of_decide_eq_false h)]
-- <
set_option maxHeartbeats 6400000 in
set_option maxRecDepth 100000 in
theorem items_step (rb : Nat) (s : List UInt8) (n : Nat) (hs0 : s.length ≤ 1099511627776) (hV : VlC rb s n) : ItC rb s n := by
  intro i d wh w hi hn hd hr
  have hs : s.length ≤ 4398046511104 := by omega
  obtain ⟨i0, hi0, hz0, hz1, hz2⟩ := info_parts infoJson
  have HRB : Hid (rb < w.heap.size) := Lib.hid (Blk.lt hr)
  have HV := Lib.hid hV
  have HN := Lib.hid hn
  have HBL := Lib.hid (blanksR_any rb s i 0 wh w hr hi hs)
  clear hr hV hn
  go_enter Tryz.func109, Tryz.ntmps109
  go_wp2_with fail
  refine HBL.out.mono ?_
  rintro x w1 ⟨rfl, hr1, hk1⟩
  obtain ⟨hq1, hq2⟩ := blA_ge hi
  have HDB : Hid (s.drop (blA s i) = bl (s.drop i)) := Lib.hid (drop_blA s i)
  generalize blA s i = q at hr1 hq1 hq2 HDB
  have HR1 := Lib.hid hr1
  have HK1 := Lib.hid hk1
  clear hr1 hk1 HBL
  obtain ⟨c0, c1, _, _⟩ := HR1.out.cells
  by_cases hlt : q < s.length
  · have HE := Lib.hid (fun wx (h : Rb wx rb s q 0 wh) => endR_f rb s q 0 wh wx h hlt)
    have hidx := run_index_list Tryz.underlying9 s q hlt
    have HDG := Lib.hid (drop_get hlt)
    generalize s.getD q 0 = c at hidx HDG
    by_cases h93 : c = 93
    · have q1 : ((c.toNat : Int) == 93) = true := b8t h93
      have HLO : Hid (listO d (s.drop i) = .ok (plainH 5) .nil (s.drop (q + 1))) := Lib.hid (by unfold listO opn; rw [← HDB.out, HDG.out]; simp only; rw [if_pos h93])
      clear h93
      go_wp2_with fail
      go_quiet (exact Calls.quiet_of (HE.out _ HR1.out))
      have HR2 : Hid (Rb (w1.drewN nq) rb s q 0 wh) := Lib.hid HR1.out
      have HK2 : Hid (KR rb w (w1.drewN nq)) := Lib.hid (Kp.drewN HK1.out nq)
      clear c0 c1 HR1 HK1
      generalize w1.drewN nq = w2 at HR2 HK2 ⊢
      obtain ⟨c0, c1, _, _⟩ := HR2.out.cells
      have f1 := Blk.frozen HR2.out 1
      go_wp2
      go_ret
      exact ⟨_, .nil, rfl, Nat.zero_le _, TL.nil _ _ _ _ _, kr_set HK2.out _, .inl ⟨q + 1, wh, by omega, HLO.out, by have := HR2.out.at_ (q + 1); push_cast at this; exact this⟩⟩
    · have q1 : ((c.toNat : Int) == 93) = false := b8f h93
      have HLO : Hid (listO d (s.drop i) = items d (s.drop i)) := Lib.hid (by
        unfold listO
        rw [opn_bl (by unfold isC; rw [← HDB.out, HDG.out]; exact decide_eq_false h93)])
      clear h93
      go_wp2_with fail
      go_quiet (exact Calls.quiet_of (HE.out _ HR1.out))
      have HR2 : Hid (Rb (w1.drewN nq) rb s q 0 wh) := Lib.hid HR1.out
      have HK2 : Hid (KR rb w (w1.drewN nq)) := Lib.hid (Kp.drewN HK1.out nq)
      clear c0 c1 HR1 HK1
      generalize w1.drewN nq = w2 at HR2 HK2 ⊢
      have HIB : Hid (items d (s.drop i) = items d (s.drop q)) := Lib.hid (by rw [items_eq, items_eq, HDB.out, val_bl])
      have HS0 : Hid (ItR rb s i d w (s.length + 1) (.slice none 0 0) w2) := Lib.hid ⟨.nil, q, wh, hq2, hq1, by omega, by simp [F.len], TL.nil _ _ _ _ _, HK2.out, HR2.out, by rw [HLO.out, HIB.out, out_pre_nil]⟩
      clear HR2 HK2 HIB HDB HLO
      go_wp2_with fail
      go_loopg [5] (s.length + 1) (fun gk v wr => ItR rb s i d w gk v wr)
      case atStart => exact HS0.out
      case round =>
        clear HS0
        obtain ⟨f, j, wh', hj, hij, hgk, hfl, htl, hk, hrb, ho⟩ := hrel
        obtain ⟨A0, c0', rfl⟩ := htl.form
        have HTL := Lib.hid htl
        have HK := Lib.hid hk
        have HR := Lib.hid hrb
        have HO := Lib.hid ho
        have HBW : Hid (w.heap.size ≤ wr.heap.size) := Lib.hid (kr_size hk)
        have HVC : Hid (Calls Tryz.prog 46 #[.pointer (some ⟨rb, 0, none⟩), .int .i64 ((d : Int) + 1)] wr (VlP rb s j (d + 1) wr)) := Lib.hid (by
          have := HV.out j (d + 1) wh' wr hj (by have := HN.out; omega) (by omega) hrb
          push_cast at this
          exact this)
        clear htl hk hrb ho
        obtain ⟨_, _, c2, _⟩ := HR.out.cells
        go_wp2_with fail
        refine HVC.out.mono ?_
        rintro x w3 ⟨h0, kk, A1, e1, A2, e2, rfl, htv, hk3, hag⟩
        have HTL3 := Lib.hid (tl_kr HTL.out hk3 HRB.out HBW.out)
        have HK3 := Lib.hid (kr_trans HK.out hk3)
        have HSZ : Hid (wr.heap.size ≤ w3.heap.size) := Lib.hid (kr_size hk3)
        have HTV := Lib.hid htv
        have HAG := Lib.hid hag
        have HTO : Hid (∀ b, Value.ownBlock (.slice A0 f.len c0') = some b → b < wr.heap.size) := Lib.hid (fun b hb => (HTL.out.own hb).2)
        clear htv hk3 hag HVC HR HK HTL c2
        go_upto_region 8 with (refine wpList_store_row rfl 25 _ _ rfl _ _ rfl rfl 25 _ (heap_alloc_new _ _) (by kernel_rfl) rfl rfl ?_)
        obtain ⟨w4, hw4⟩ : ∃ w4, w4 = w3.alloc (.cells #[.int .i64 h0.kind, .int .i64 h0.num, .string ⟨h0.text.toArray⟩, .slice A1 kk.len e1, .slice A2 h0.keys.length e2] 25) := ⟨_, rfl⟩
        have hb4 : Below w3.heap.size w3 w4 := by rw [hw4]; exact (Below.refl _ _).alloc (Nat.le_refl _) _
        have HN4 : Hid (Blk w4 w3.heap.size 25 #[.int .i64 h0.kind, .int .i64 h0.num, .string ⟨h0.text.toArray⟩, .slice A1 kk.len e1, .slice A2 h0.keys.length e2]) := Lib.hid (by rw [hw4]; exact Blk.new _ _ _)
        have hk4 : KR rb w3 w4 := kr_below (kr_refl _ _) hb4
        have HTL4 := Lib.hid (tl_kr HTL3.out hk4 HRB.out (Nat.le_trans HBW.out HSZ.out))
        have HK4 := Lib.hid (kr_trans HK3.out hk4)
        have HTV4 := Lib.hid (HTV.out.kept (w' := w4) fun p hp => hb4.cell hp.2)
        have HSZ4 : Hid (w3.heap.size ≤ w4.heap.size) := Lib.hid hb4.size
        have HRX : Hid (∀ i' e' h', Rb w3 rb s i' e' h' → Rb w4 rb s i' e' h') := Lib.hid (fun i' e' h' h => Blk.below h hb4 (Blk.lt h))
        rw [← hw4]
        clear hw4 hb4 hk4 HTL3 HK3 HTV
        rcases HAG.out with ⟨j2, wh2, hj2, hval, hr3⟩ | ⟨no, r, j2, hno, hj2, hval, hr3⟩
        · have HVAL := Lib.hid hval
          have HR4 := Lib.hid (HRX.out _ _ _ hr3)
          have hjj : j < j2 ∧ f.len + 1 ≤ j2 := by
            have := val_len hval
            rw [List.length_drop, List.length_drop] at this
            omega
          clear hval hr3 HAG HRX
          obtain ⟨_, _, c2, _⟩ := HR4.out.cells
          have y0 := HN4.out.cell 0
          have y1 := HN4.out.cell 1
          have y2 := HN4.out.cell 2
          have y3 := HN4.out.cell 3
          have y4 := HN4.out.cell 4
          obtain ⟨S6, xs, ho6, ht6, hS6⟩ := HTL4.out
          have HO6 : Hid (w4.ownsRow w.heap.size 25 5 (.slice A0 f.len c0') f.len xs) := Lib.hid ho6
          have HT6 := Lib.hid ht6
          have HS6 := Lib.hid hS6
          clear ho6 ht6 hS6
          go_upto_region 11 with (at_builtin; go_loud (refine wpList_append_any _ rfl _ _ 22 rfl w.heap.size 25 i0 _ 5 80 Tryz.underlying22 hi0 hz0 hz1 hz2 rfl (by decide) (.slice A0 f.len c0') f.len xs rfl (World.ownsRow.alloc HO6.out _) (w4.heap.size + 1) (some ⟨w4.heap.size, 0, none⟩) 1 1 (jcells h0 (.slice A1 kk.len e1) (.slice A2 h0.keys.length e2)) rfl ((Reads.of_block (heap_alloc_new _ _) rfl).more (by simp)) (encJ.one _ _ _ _ _ _ _) (by unfold maxLen; omega) (by omega) (by have := HBW.out; have := HSZ.out; have := HSZ4.out; simp; omega) ?_; intro v7 w7 g1 g2 g3))
          have HL7 : Hid (TL encJ w7 w.heap.size (fun _ => False) 25 v7 (f.app (.cons h0 kk .nil))) := Lib.hid (by
            have hbw := HBW.out
            have hsz := HSZ.out
            have hsz4 := HSZ4.out
            refine TL.push (w := w4.alloc (.cells #[.int .i64 h0.kind, .int .i64 h0.num, .string ⟨h0.text.toArray⟩, .slice A1 kk.len e1, .slice A2 h0.keys.length e2] 25)) (v := .slice A0 f.len c0') (HT6.out.kept fun p hp => World.cell?_alloc_lt _ _ _ (by rcases HS6.out _ hp with h | h; exact h.2.1; exact h.1.elim)) (fun b hb => ?_) (HTV4.out.tr.kept fun p hp => World.cell?_alloc_lt _ _ _ (by have := hp.2; omega)) (fun b hb => .inl ⟨by have := hb.1; omega, by have := hb.2; simp; omega, fun e => by have := HTO.out b e; have := hb.1; omega⟩) (by simp; omega) (fun b hb => (own_lt HO6.out hb).1) g1 g2 g3
            rcases HS6.out b hb with h | h
            · exact .inl ⟨h.1, by have := h.2.1; simp; omega, h.2.2⟩
            · exact h.1.elim)
          have hg : Below w.heap.size w4 w7 := Below.grown ((Below.refl _ w4).alloc (by have := HBW.out; have := HSZ.out; have := HSZ4.out; omega) _) g2 (by have := HBW.out; have := HSZ.out; have := HSZ4.out; simp; omega) (fun b hb => (own_lt HO6.out hb).1)
          have HK7 : Hid (KR rb w w7) := Lib.hid (Kp.trans HK4.out (Kp.of_below hg))
          have HR7 : Hid (Rb w7 rb s j2 0 wh2) := Lib.hid (Blk.below HR4.out hg HRB.out)
          have HFL : Hid ((f.app (.cons h0 kk .nil)).len = f.len + 1) := Lib.hid (by rw [F.len_app]; rfl)
          clear g1 g2 g3 hg y0 y1 y2 y3 y4 HO6 HT6 HS6 HTL4 HTV4 HN4 HR4 HK4 c2 HTO
          have HBL := Lib.hid (blanksR_any rb s j2 0 wh2 w7 HR7.out hj2 hs)
          go_wp2_with fail
          refine HBL.out.mono ?_
          rintro x w8 ⟨rfl, hr8, hk8⟩
          obtain ⟨hp1, hp2⟩ := blA_ge hj2
          have HDB2 : Hid (s.drop (blA s j2) = bl (s.drop j2)) := Lib.hid (drop_blA s j2)
          generalize blA s j2 = p at hr8 hp1 hp2 HDB2
          have HR8 := Lib.hid hr8
          have HK8 := Lib.hid (kr_trans HK7.out hk8)
          have HL8 := Lib.hid (tl_kr HL7.out hk8 HRB.out (kr_size HK7.out))
          clear hr8 hk8 HR7 HK7 HL7 HBL
          have HBY : Hid (Calls Tryz.prog 148 #[.pointer (some ⟨rb, 0, none⟩), .string ⟨#[44, 93]⟩] w8 (ByP rb s p [44, 93] w8)) := Lib.hid (byteR_any rb s p wh2 [44, 93] w8 HR8.out hs hp2 (by decide))
          have HIT : Hid (listO d (s.drop i) = ((match nx 93 (s.drop j2) with
            | .err no q => .err no q
            | .fin q => .ok (plainH 5) (.cons h0 kk .nil) q
            | .more q => (items d q).consL h0 kk : Out).pre f)) := Lib.hid (by rw [HO.out, items_eq, HVAL.out]; rfl)
          have HNX : Hid (nx 93 (s.drop j2) = match s.drop p with
            | [] => .err 2 []
            | c :: r => if c = 44 then .more r else if c = 93 then .fin r else .err 4 (c :: r)) := Lib.hid (by rw [HDB2.out]; rfl)
          clear HO HVAL HDB2
          go_wp2_with fail
          refine HBY.out.mono ?_
          rintro x w9 ⟨hk9, hx9⟩
          have HK9 := Lib.hid (kr_trans HK8.out hk9)
          have HL9 := Lib.hid (tl_kr HL8.out hk9 HRB.out (kr_size HK8.out))
          clear hk9 HK8 HL8 HR8 HBY
          have hsl : (f.app (.cons h0 kk .nil)).len ≤ s.length := by rw [HFL.out]; omega
          rcases hx9 with ⟨hpe, rfl, hr9⟩ | ⟨hpl, hmem, rfl, wh3, hr9⟩ | ⟨hpl, hmem, rfl, hr9⟩
          · have HX : Hid (ItP rb s i d w (.returned v7) w9) := Lib.hid ⟨v7, _, rfl, hsl, HL9.out, HK9.out, .inr ⟨2, [], p, by decide, hp2, by rw [HIT.out, HNX.out, List.drop_eq_nil_of_le hpe]; rfl, by rw [List.length_nil, show s.length - 0 = p by omega]; exact hr9⟩⟩
            clear hr9
            go_wp2
            go_ret
            exact HX.out
          · have HNX2 := Lib.hid (drop_get hpl)
            rw [HNX2.out] at HNX
            generalize s.getD p 0 = c9 at hmem HNX HNX2
            by_cases h44 : c9 = 44
            · have q1 : ((c9.toNat : Int) != 44) = false := by unfold bne; rw [show ((c9.toNat : Int) == 44) = true from b8t h44]; rfl
              have HX : Hid (ItR rb s i d w (gk - 1) v7 w9) := Lib.hid ⟨_, p + 1, wh3, by omega, by omega, by omega, by rw [HFL.out]; omega, HL9.out, HK9.out, hr9, by rw [HIT.out, HNX.out]; simp only; rw [if_pos h44]; simp only; rw [consL_pre, out_pre_pre]⟩
              clear hr9 h44
              go_wp2_with fail
              go_roundg (gk - 1)
              case measure => omega
              case rel => exact HX.out
            · have h93 : c9 = 93 := by
                rcases List.mem_cons.1 hmem with h | h
                · exact absurd h h44
                · exact List.mem_singleton.1 h
              have q1 : ((c9.toNat : Int) != 44) = true := by unfold bne; rw [show ((c9.toNat : Int) == 44) = false from b8f h44]; rfl
              have HX : Hid (ItP rb s i d w (.returned v7) w9) := Lib.hid ⟨v7, _, rfl, hsl, HL9.out, HK9.out, .inl ⟨p + 1, wh3, by omega, by rw [HIT.out, HNX.out]; simp only; rw [if_neg h44, if_pos h93]; rfl, hr9⟩⟩
              clear hr9 h44 h93
              go_wp2
              go_ret
              exact HX.out
          · have HX : Hid (ItP rb s i d w (.returned v7) w9) := Lib.hid (by
              refine ⟨v7, _, rfl, hsl, HL9.out, HK9.out, .inr ⟨4, s.drop p, p, by decide, hp2, ?_, by rw [len_drop hp2]; exact hr9⟩⟩
              rw [HIT.out, HNX.out, drop_get hpl]
              simp only
              rw [if_neg (fun e => hmem (by rw [e]; simp)), if_neg (fun e => hmem (by rw [e]; simp))]
              rfl)
            clear hr9
            go_wp2
            go_ret
            exact HX.out
        · have HR4 := Lib.hid (HRX.out _ _ _ hr3)
          have HX : Hid (ItP rb s i d w (.returned (.slice none 0 0)) w4) := Lib.hid ⟨_, .nil, rfl, Nat.zero_le _, TL.nil _ _ _ _ _, HK4.out, .inr ⟨no, r, j2, hno, hj2, by rw [HO.out, items_eq, hval]; rfl, HR4.out⟩⟩
          have e0 : ((no : Int) != 0) = true := by rw [bne_iff_ne]; omega
          obtain ⟨_, _, c2, _⟩ := HR4.out.cells
          clear hval hr3 HAG HRX
          go_wp2
          go_ret
          exact HX.out
  · have HLO : Hid (listO d (s.drop i) = items d (s.drop i)) := Lib.hid (by
      unfold listO
      rw [opn_bl (by unfold isC; rw [← HDB.out, List.drop_eq_nil_of_le (by omega)])])
    go_upto_region 3 with fail
    refine wp_region_held_drew (S := (fun wy => wy.cell? ⟨rb, 0, none⟩ = some (.string ⟨s.toArray⟩) ∧ wy.cell? ⟨rb, 1, none⟩ = some (.int .i64 (q : Nat)))) (by kernel_rfl) ⟨c0, c1⟩ (fun hHeld => ?_)
    refine tk 0 (h := ?_)
    try simp only [Act.put, List.setIfInBounds_toArray, List.set_cons_zero, List.set_cons_succ]
    refine wpAnyH_ready (rs := [1]) (by kernel_rfl) (by simp) ?_
    refine rdy (fun K hK => ?_) AllReadyH.nil
    rw [if_pos (by rfl)]
    go_simp
    refine (endR_t rb s q 0 wh w1.drew HR1.out (by omega)).mono ?_
    rintro x wn ⟨rfl, nq, rfl⟩
    refine hK.out _ _ ⟨c0, c1⟩ (fun _ => ?_)
    clear hK
    try simp only [Act.put, List.setIfInBounds_toArray, List.set_cons_zero, List.set_cons_succ]
    refine tk 2 (h := ?_)
    try simp only [Act.put, List.setIfInBounds_toArray, List.set_cons_zero, List.set_cons_succ]
    refine tk 3 (h := ?_)
    try simp only [Act.put, List.setIfInBounds_toArray, List.set_cons_zero, List.set_cons_succ]
    refine tks 4 (h := ?_)
    try simp only [Act.put, List.setIfInBounds_toArray, List.set_cons_zero, List.set_cons_succ]
    refine tks 5 (h := ?_)
    try simp only [Act.put, List.setIfInBounds_toArray, List.set_cons_zero, List.set_cons_succ]
    refine tks 6 (h := ?_)
    try simp only [Act.put, List.setIfInBounds_toArray, List.set_cons_zero, List.set_cons_succ]
    refine tks 7 (h := ?_)
    try simp only [Act.put, List.setIfInBounds_toArray, List.set_cons_zero, List.set_cons_succ]
    refine tks 8 (h := ?_)
    try simp only [Act.put, List.setIfInBounds_toArray, List.set_cons_zero, List.set_cons_succ]
    refine tks 9 (h := ?_)
    try simp only [Act.put, List.setIfInBounds_toArray, List.set_cons_zero, List.set_cons_succ]
    refine tks 10 (h := ?_)
    try simp only [Act.put, List.setIfInBounds_toArray, List.set_cons_zero, List.set_cons_succ]
    refine tks 11 (h := ?_)
    try simp only [Act.put, List.setIfInBounds_toArray, List.set_cons_zero, List.set_cons_succ]
    refine tks 12 (h := ?_)
    try simp only [Act.put, List.setIfInBounds_toArray, List.set_cons_zero, List.set_cons_succ]
    refine tks 13 (h := ?_)
    try simp only [Act.put, List.setIfInBounds_toArray, List.set_cons_zero, List.set_cons_succ]
    refine tk 14 (h := ?_)
    try simp only [Act.put, List.setIfInBounds_toArray, List.set_cons_zero, List.set_cons_succ]
    refine wpAnyH_done (by kernel_rfl) ?_ _
    obtain ⟨w2, hw2⟩ : ∃ w2, w2 = w1.drew.drewN nq := ⟨_, rfl⟩
    have HR2 : Hid (Rb w2 rb s q 0 wh) := Lib.hid (by rw [hw2]; exact HR1.out)
    have HK2 : Hid (KR rb w w2) := Lib.hid (by rw [hw2]; exact (Kp.drew HK1.out).drewN _)
    rw [← hw2]
    clear hw2 c0 c1 HR1 HK1
    have HIB : Hid (items d (s.drop i) = items d (s.drop q)) := Lib.hid (by rw [items_eq, items_eq, HDB.out, val_bl])
    have HS0 : Hid (ItR rb s i d w (s.length + 1) (.slice none 0 0) w2) := Lib.hid ⟨.nil, q, wh, hq2, hq1, by omega, by simp [F.len], TL.nil _ _ _ _ _, HK2.out, HR2.out, by rw [HLO.out, HIB.out, out_pre_nil]⟩
    clear HR2 HK2 HIB HDB HLO
    go_wp2_with fail
    go_loopg [5] (s.length + 1) (fun gk v wr => ItR rb s i d w gk v wr)
    case atStart => exact HS0.out
    case round =>
      clear HS0
      obtain ⟨f, j, wh', hj, hij, hgk, hfl, htl, hk, hrb, ho⟩ := hrel
      obtain ⟨A0, c0', rfl⟩ := htl.form
      have HTL := Lib.hid htl
      have HK := Lib.hid hk
      have HR := Lib.hid hrb
      have HO := Lib.hid ho
      have HBW : Hid (w.heap.size ≤ wr.heap.size) := Lib.hid (kr_size hk)
      have HVC : Hid (Calls Tryz.prog 46 #[.pointer (some ⟨rb, 0, none⟩), .int .i64 ((d : Int) + 1)] wr (VlP rb s j (d + 1) wr)) := Lib.hid (by
        have := HV.out j (d + 1) wh' wr hj (by have := HN.out; omega) (by omega) hrb
        push_cast at this
        exact this)
      clear htl hk hrb ho
      obtain ⟨_, _, c2, _⟩ := HR.out.cells
      go_wp2_with fail
      refine HVC.out.mono ?_
      rintro x w3 ⟨h0, kk, A1, e1, A2, e2, rfl, htv, hk3, hag⟩
      have HTL3 := Lib.hid (tl_kr HTL.out hk3 HRB.out HBW.out)
      have HK3 := Lib.hid (kr_trans HK.out hk3)
      have HSZ : Hid (wr.heap.size ≤ w3.heap.size) := Lib.hid (kr_size hk3)
      have HTV := Lib.hid htv
      have HAG := Lib.hid hag
      have HTO : Hid (∀ b, Value.ownBlock (.slice A0 f.len c0') = some b → b < wr.heap.size) := Lib.hid (fun b hb => (HTL.out.own hb).2)
      clear htv hk3 hag HVC HR HK HTL c2
      go_upto_region 8 with (refine wpList_store_row rfl 25 _ _ rfl _ _ rfl rfl 25 _ (heap_alloc_new _ _) (by kernel_rfl) rfl rfl ?_)
      obtain ⟨w4, hw4⟩ : ∃ w4, w4 = w3.alloc (.cells #[.int .i64 h0.kind, .int .i64 h0.num, .string ⟨h0.text.toArray⟩, .slice A1 kk.len e1, .slice A2 h0.keys.length e2] 25) := ⟨_, rfl⟩
      have hb4 : Below w3.heap.size w3 w4 := by rw [hw4]; exact (Below.refl _ _).alloc (Nat.le_refl _) _
      have HN4 : Hid (Blk w4 w3.heap.size 25 #[.int .i64 h0.kind, .int .i64 h0.num, .string ⟨h0.text.toArray⟩, .slice A1 kk.len e1, .slice A2 h0.keys.length e2]) := Lib.hid (by rw [hw4]; exact Blk.new _ _ _)
      have hk4 : KR rb w3 w4 := kr_below (kr_refl _ _) hb4
      have HTL4 := Lib.hid (tl_kr HTL3.out hk4 HRB.out (Nat.le_trans HBW.out HSZ.out))
      have HK4 := Lib.hid (kr_trans HK3.out hk4)
      have HTV4 := Lib.hid (HTV.out.kept (w' := w4) fun p hp => hb4.cell hp.2)
      have HSZ4 : Hid (w3.heap.size ≤ w4.heap.size) := Lib.hid hb4.size
      have HRX : Hid (∀ i' e' h', Rb w3 rb s i' e' h' → Rb w4 rb s i' e' h') := Lib.hid (fun i' e' h' h => Blk.below h hb4 (Blk.lt h))
      rw [← hw4]
      clear hw4 hb4 hk4 HTL3 HK3 HTV
      rcases HAG.out with ⟨j2, wh2, hj2, hval, hr3⟩ | ⟨no, r, j2, hno, hj2, hval, hr3⟩
      · have HVAL := Lib.hid hval
        have HR4 := Lib.hid (HRX.out _ _ _ hr3)
        have hjj : j < j2 ∧ f.len + 1 ≤ j2 := by
          have := val_len hval
          rw [List.length_drop, List.length_drop] at this
          omega
        clear hval hr3 HAG HRX
        obtain ⟨_, _, c2, _⟩ := HR4.out.cells
        have y0 := HN4.out.cell 0
        have y1 := HN4.out.cell 1
        have y2 := HN4.out.cell 2
        have y3 := HN4.out.cell 3
        have y4 := HN4.out.cell 4
        obtain ⟨S6, xs, ho6, ht6, hS6⟩ := HTL4.out
        have HO6 : Hid (w4.ownsRow w.heap.size 25 5 (.slice A0 f.len c0') f.len xs) := Lib.hid ho6
        have HT6 := Lib.hid ht6
        have HS6 := Lib.hid hS6
        clear ho6 ht6 hS6
        go_upto_region 11 with (at_builtin; go_loud (refine wpList_append_any _ rfl _ _ 22 rfl w.heap.size 25 i0 _ 5 80 Tryz.underlying22 hi0 hz0 hz1 hz2 rfl (by decide) (.slice A0 f.len c0') f.len xs rfl (World.ownsRow.alloc HO6.out _) (w4.heap.size + 1) (some ⟨w4.heap.size, 0, none⟩) 1 1 (jcells h0 (.slice A1 kk.len e1) (.slice A2 h0.keys.length e2)) rfl ((Reads.of_block (heap_alloc_new _ _) rfl).more (by simp)) (encJ.one _ _ _ _ _ _ _) (by unfold maxLen; omega) (by omega) (by have := HBW.out; have := HSZ.out; have := HSZ4.out; simp; omega) ?_; intro v7 w7 g1 g2 g3))
        have HL7 : Hid (TL encJ w7 w.heap.size (fun _ => False) 25 v7 (f.app (.cons h0 kk .nil))) := Lib.hid (by
          have hbw := HBW.out
          have hsz := HSZ.out
          have hsz4 := HSZ4.out
          refine TL.push (w := w4.alloc (.cells #[.int .i64 h0.kind, .int .i64 h0.num, .string ⟨h0.text.toArray⟩, .slice A1 kk.len e1, .slice A2 h0.keys.length e2] 25)) (v := .slice A0 f.len c0') (HT6.out.kept fun p hp => World.cell?_alloc_lt _ _ _ (by rcases HS6.out _ hp with h | h; exact h.2.1; exact h.1.elim)) (fun b hb => ?_) (HTV4.out.tr.kept fun p hp => World.cell?_alloc_lt _ _ _ (by have := hp.2; omega)) (fun b hb => .inl ⟨by have := hb.1; omega, by have := hb.2; simp; omega, fun e => by have := HTO.out b e; have := hb.1; omega⟩) (by simp; omega) (fun b hb => (own_lt HO6.out hb).1) g1 g2 g3
          rcases HS6.out b hb with h | h
          · exact .inl ⟨h.1, by have := h.2.1; simp; omega, h.2.2⟩
          · exact h.1.elim)
        have hg : Below w.heap.size w4 w7 := Below.grown ((Below.refl _ w4).alloc (by have := HBW.out; have := HSZ.out; have := HSZ4.out; omega) _) g2 (by have := HBW.out; have := HSZ.out; have := HSZ4.out; simp; omega) (fun b hb => (own_lt HO6.out hb).1)
        have HK7 : Hid (KR rb w w7) := Lib.hid (Kp.trans HK4.out (Kp.of_below hg))
        have HR7 : Hid (Rb w7 rb s j2 0 wh2) := Lib.hid (Blk.below HR4.out hg HRB.out)
        have HFL : Hid ((f.app (.cons h0 kk .nil)).len = f.len + 1) := Lib.hid (by rw [F.len_app]; rfl)
        clear g1 g2 g3 hg y0 y1 y2 y3 y4 HO6 HT6 HS6 HTL4 HTV4 HN4 HR4 HK4 c2 HTO
        have HBL := Lib.hid (blanksR_any rb s j2 0 wh2 w7 HR7.out hj2 hs)
        go_wp2_with fail
        refine HBL.out.mono ?_
        rintro x w8 ⟨rfl, hr8, hk8⟩
        obtain ⟨hp1, hp2⟩ := blA_ge hj2
        have HDB2 : Hid (s.drop (blA s j2) = bl (s.drop j2)) := Lib.hid (drop_blA s j2)
        generalize blA s j2 = p at hr8 hp1 hp2 HDB2
        have HR8 := Lib.hid hr8
        have HK8 := Lib.hid (kr_trans HK7.out hk8)
        have HL8 := Lib.hid (tl_kr HL7.out hk8 HRB.out (kr_size HK7.out))
        clear hr8 hk8 HR7 HK7 HL7 HBL
        have HBY : Hid (Calls Tryz.prog 148 #[.pointer (some ⟨rb, 0, none⟩), .string ⟨#[44, 93]⟩] w8 (ByP rb s p [44, 93] w8)) := Lib.hid (byteR_any rb s p wh2 [44, 93] w8 HR8.out hs hp2 (by decide))
        have HIT : Hid (listO d (s.drop i) = ((match nx 93 (s.drop j2) with
          | .err no q => .err no q
          | .fin q => .ok (plainH 5) (.cons h0 kk .nil) q
          | .more q => (items d q).consL h0 kk : Out).pre f)) := Lib.hid (by rw [HO.out, items_eq, HVAL.out]; rfl)
        have HNX : Hid (nx 93 (s.drop j2) = match s.drop p with
          | [] => .err 2 []
          | c :: r => if c = 44 then .more r else if c = 93 then .fin r else .err 4 (c :: r)) := Lib.hid (by rw [HDB2.out]; rfl)
        clear HO HVAL HDB2
        go_wp2_with fail
        refine HBY.out.mono ?_
        rintro x w9 ⟨hk9, hx9⟩
        have HK9 := Lib.hid (kr_trans HK8.out hk9)
        have HL9 := Lib.hid (tl_kr HL8.out hk9 HRB.out (kr_size HK8.out))
        clear hk9 HK8 HL8 HR8 HBY
        have hsl : (f.app (.cons h0 kk .nil)).len ≤ s.length := by rw [HFL.out]; omega
        rcases hx9 with ⟨hpe, rfl, hr9⟩ | ⟨hpl, hmem, rfl, wh3, hr9⟩ | ⟨hpl, hmem, rfl, hr9⟩
        · have HX : Hid (ItP rb s i d w (.returned v7) w9) := Lib.hid ⟨v7, _, rfl, hsl, HL9.out, HK9.out, .inr ⟨2, [], p, by decide, hp2, by rw [HIT.out, HNX.out, List.drop_eq_nil_of_le hpe]; rfl, by rw [List.length_nil, show s.length - 0 = p by omega]; exact hr9⟩⟩
          clear hr9
          go_wp2
          go_ret
          exact HX.out
        · have HNX2 := Lib.hid (drop_get hpl)
          rw [HNX2.out] at HNX
          generalize s.getD p 0 = c9 at hmem HNX HNX2
          by_cases h44 : c9 = 44
          · have q1 : ((c9.toNat : Int) != 44) = false := by unfold bne; rw [show ((c9.toNat : Int) == 44) = true from b8t h44]; rfl
            have HX : Hid (ItR rb s i d w (gk - 1) v7 w9) := Lib.hid ⟨_, p + 1, wh3, by omega, by omega, by omega, by rw [HFL.out]; omega, HL9.out, HK9.out, hr9, by rw [HIT.out, HNX.out]; simp only; rw [if_pos h44]; simp only; rw [consL_pre, out_pre_pre]⟩
            clear hr9 h44
            go_wp2_with fail
            go_roundg (gk - 1)
            case measure => omega
            case rel => exact HX.out
          · have h93 : c9 = 93 := by
              rcases List.mem_cons.1 hmem with h | h
              · exact absurd h h44
              · exact List.mem_singleton.1 h
            have q1 : ((c9.toNat : Int) != 44) = true := by unfold bne; rw [show ((c9.toNat : Int) == 44) = false from b8f h44]; rfl
            have HX : Hid (ItP rb s i d w (.returned v7) w9) := Lib.hid ⟨v7, _, rfl, hsl, HL9.out, HK9.out, .inl ⟨p + 1, wh3, by omega, by rw [HIT.out, HNX.out]; simp only; rw [if_neg h44, if_pos h93]; rfl, hr9⟩⟩
            clear hr9 h44 h93
            go_wp2
            go_ret
            exact HX.out
        · have HX : Hid (ItP rb s i d w (.returned v7) w9) := Lib.hid (by
            refine ⟨v7, _, rfl, hsl, HL9.out, HK9.out, .inr ⟨4, s.drop p, p, by decide, hp2, ?_, by rw [len_drop hp2]; exact hr9⟩⟩
            rw [HIT.out, HNX.out, drop_get hpl]
            simp only
            rw [if_neg (fun e => hmem (by rw [e]; simp)), if_neg (fun e => hmem (by rw [e]; simp))]
            rfl)
          clear hr9
          go_wp2
          go_ret
          exact HX.out
      · have HR4 := Lib.hid (HRX.out _ _ _ hr3)
        have HX : Hid (ItP rb s i d w (.returned (.slice none 0 0)) w4) := Lib.hid ⟨_, .nil, rfl, Nat.zero_le _, TL.nil _ _ _ _ _, HK4.out, .inr ⟨no, r, j2, hno, hj2, by rw [HO.out, items_eq, hval]; rfl, HR4.out⟩⟩
        have e0 : ((no : Int) != 0) = true := by rw [bne_iff_ne]; omega
        obtain ⟨_, _, c2, _⟩ := HR4.out.cells
        clear hval hr3 HAG HRX
        go_wp2
        go_ret
        exact HX.out
-- >
end Js
end Go.Proofs.YtlfeddgpfaigkaaGreatDoor
