/-
  Parts of the proof: JsOo.
-/
import Derived.Test.YtjohdaobhonioaaGreatDoorPkFo8
import Derived.Deep.RegionWith
import Derived.Deep.LoopGhost
namespace Go.Proofs.YtjohdaobhonioaaGreatDoor
open Go.RowKit
namespace Js
def isM (c : UInt8) (t : List UInt8) : Bool := match bl t with
 | [] => false
 | d :: _ => decide (d = c)
def Out.consG (ks : List (List UInt8)) (f : F) : Out -> Out
 | .err no r => .err no r
 | .ok h g r => .ok { h with keys := ks ++ h.keys } (f.app g) r
theorem Out.consG_nil (O : Out) : O.consG [] .nil = O := by cases O <;> rfl
theorem Out.consG_snoc (ks : List (List UInt8)) (t : List UInt8) (f : F) (h : Hd) (k : F) (O : Out) : (O.consM t h k).consG ks f = O.consG (ks ++ [t]) (f.app (.cons h k .nil)) := by
 cases O with
 | err no r => rfl
 | ok h0 g r => simp [Out.consM, Out.consG, F.app_assoc, F.app]
-- <
set_option maxHeartbeats 32000000 in
set_option maxRecDepth 100000 in
theorem obj_step (s : List UInt8) (rb m : Nat) (hs : s.length ≤ 4398046511104) (hrb : 11 ≤ rb) (hN : NodeC s rb m) : ObjC s rb m := by
 intro p d w hp hm hd hst hr
 have hmm := @run_makeMap Tryz.prog
 have HN := Lib.hid hN
 have hrl : rb < w.heap.size := Blk.lt hr
 have HBL := Lib.hid (blanks_any s hs p rb hp (w.alloc (.cells #[.slice none 0 0, .slice none 0 0] 329)).drew (Blk.alloc hr _))
 have HST := Lib.hid hst
 have HRB := Lib.hid hrb
 have HM := Lib.hid hm
 have HW : Hid (rb < w.heap.size) := Lib.hid hrl
 obtain ⟨ob, hob⟩ : ∃ ob, ob = w.heap.size := ⟨_, rfl⟩
 have HOB := Lib.hid hob
 have HBK : Hid (∀ wx, Kp (w.alloc (.cells #[.slice none 0 0, .slice none 0 0] 329)).drew.heap.size (· = rb) (w.alloc (.cells #[.slice none 0 0, .slice none 0 0] 329)).drew wx -> Blk wx ob 329 #[.slice none 0 0, .slice none 0 0] /\ Kp w.heap.size (· = rb) w wx) := Lib.hid fun wx hk => by
  have h0 : Blk (w.alloc (.cells #[.slice none 0 0, .slice none 0 0] 329)).drew ob 329 #[.slice none 0 0, .slice none 0 0] := by rw [hob]; exact Blk.new _ _ _
  exact ⟨hk.blk h0 h0.lt (by omega), (((Kp.refl _ _ _).alloc (Nat.le_refl _) _).drew).trans (hk.less (by simp))⟩
 clear hN hst hr hrb hm
 obtain ⟨O, hO⟩ : ∃ O, O = objO d (s.drop p) := ⟨_, rfl⟩
 rw [<- hO]
 have HO := Lib.hid hO
 clear hO
 go_enter Tryz.func150, Tryz.ntmps150
 go_upto_region 2 with fail
 rw [<- hob]
 clear hob hrl
 go_cut [31] (fun z wx => ∃ q : Nat, z = .bool (isM 125 (s.drop p)) /\ p ≤ q /\ q ≤ s.length /\ Hid (s.drop q = bl (s.drop p)) /\ Hid (Rdr wx rb s q) /\ Hid (Kp w.heap.size (· = rb) w wx) /\ Hid (Blk wx ob 329 #[.slice none 0 0, .slice none 0 0]))
 case first =>
  cases hb : bl (s.drop p) with
  | nil =>
    have HI : Hid (isM 125 (s.drop p) = false) := Lib.hid (by unfold isM; rw [hb])
    refine wp_region_held_drew (S := (fun _ => True)) (by kernel_rfl) trivial (fun hHeld => ?_)
    refine tk 0 (h := ?_)
    try simp only [Act.put, List.setIfInBounds_toArray, List.set_cons_zero, List.set_cons_succ]
    refine wpAnyH_ready (rs := [1]) (by kernel_rfl) (by simp) ?_
    refine rdy (fun K hK => ?_) AllReadyH.nil
    rw [if_pos (by rfl)]
    go_simp
    refine HBL.out.mono ?_
    rintro x w1 ⟨q, rfl, hpq, hq, he, hr1, hk1⟩
    obtain rfl : q = s.length := drop_nil_len hq (he.trans hb)
    rw [show decide (s.length < s.length) = false from decide_eq_false (Nat.lt_irrefl _)]
    refine hK.out _ _ trivial (fun _ => ?_)
    clear hK
    try simp only [Act.put, List.setIfInBounds_toArray, List.set_cons_zero, List.set_cons_succ]
    refine tk 2 (h := ?_)
    try simp only [Act.put, List.setIfInBounds_toArray, List.set_cons_zero, List.set_cons_succ]
    refine tks 3 (h := ?_)
    try simp only [Act.put, List.setIfInBounds_toArray, List.set_cons_zero, List.set_cons_succ]
    refine tks 4 (h := ?_)
    try simp only [Act.put, List.setIfInBounds_toArray, List.set_cons_zero, List.set_cons_succ]
    refine tks 5 (h := ?_)
    try simp only [Act.put, List.setIfInBounds_toArray, List.set_cons_zero, List.set_cons_succ]
    refine tks 6 (h := ?_)
    try simp only [Act.put, List.setIfInBounds_toArray, List.set_cons_zero, List.set_cons_succ]
    refine tks 7 (h := ?_)
    try simp only [Act.put, List.setIfInBounds_toArray, List.set_cons_zero, List.set_cons_succ]
    refine tks 8 (h := ?_)
    try simp only [Act.put, List.setIfInBounds_toArray, List.set_cons_zero, List.set_cons_succ]
    refine tks 9 (h := ?_)
    try simp only [Act.put, List.setIfInBounds_toArray, List.set_cons_zero, List.set_cons_succ]
    refine tks 10 (h := ?_)
    try simp only [Act.put, List.setIfInBounds_toArray, List.set_cons_zero, List.set_cons_succ]
    refine tks 11 (h := ?_)
    try simp only [Act.put, List.setIfInBounds_toArray, List.set_cons_zero, List.set_cons_succ]
    refine tks 12 (h := ?_)
    try simp only [Act.put, List.setIfInBounds_toArray, List.set_cons_zero, List.set_cons_succ]
    refine tk 13 (h := ?_)
    try simp only [Act.put, List.setIfInBounds_toArray, List.set_cons_zero, List.set_cons_succ]
    refine wpAnyH_done (by kernel_rfl) ?_ _
    go_wp2_with fail
    go_meet
    exact ⟨s.length, by rw [HI.out], hp, Nat.le_refl _, Lib.hid he, Lib.hid hr1, Lib.hid (HBK.out _ hk1).2, Lib.hid (HBK.out _ hk1).1⟩
  | cons c r =>
    have HI : Hid (isM 125 (s.drop p) = decide (c = 125)) := Lib.hid (by unfold isM; rw [hb])
    have q1 : ((c.toNat : Int) == 125) = decide (c = 125) := b8 c 125
    generalize decide (c = 125) = z at q1 HI
    go_region_with (refine HBL.out.mono ?_; rintro x w1 ⟨q, rfl, hpq, hq, he, hr1, hk1⟩; obtain ⟨hlt, hg, hdr, _⟩ := drop_cons_at (he.trans hb); have hidx := run_index_list Tryz.underlying9 s q hlt; rw [hg] at hidx; have c0 := hr1.c0; have c1 := hr1.c1; rw [show decide (q < s.length) = true from decide_eq_true hlt])
    all_goals
     go_wp2_with fail
     go_meet
     exact ⟨q, by rw [HI.out], hpq, hq, Lib.hid he, Lib.hid hr1, Lib.hid (HBK.out _ hk1).2, Lib.hid (HBK.out _ hk1).1⟩
 case rest =>
  obtain ⟨q, rfl, hpq, hq, HE, HR, HK, HO0⟩ := hcut
  clear HBL HBK
  by_cases hi : isM 125 (s.drop p) = true
  . rw [hi]
    have HO1 : Hid (∃ r, bl (s.drop p) = 125 :: r) := Lib.hid (by
     unfold isM at hi
     cases hb : bl (s.drop p) with
     | nil => rw [hb] at hi; cases hi
     | cons c r => rw [hb] at hi; simp at hi; subst hi; exact ⟨r, rfl⟩)
    clear hi
    have c1 := HR.out.c1
    have f1 := Blk.frozen HR.out 1
    have hne : ¬ rb = ob := by have := HW.out; have := HOB.out; omega
    have hne2 : ¬ ob = rb := by omega
    have o0 := HO0.out.cell 0
    have o1 := HO0.out.cell 1
    simp only [List.getElem?_toArray, List.getElem?_cons_zero, List.getElem?_cons_succ] at o0 o1
    go_wp2_with fail
    go_ret2
    obtain ⟨r, hb⟩ := HO1.out
    obtain ⟨hlt, _, hdr, _⟩ := drop_cons_at (HE.out.trans hb)
    have hO2 : O = .ok (plainH 6) .nil r := by rw [HO.out]; unfold objO opn; rw [hb]; simp
    rw [hO2]
    exact ⟨_, q + 1, fun _ => False, rfl, ⟨none, 0, none, 0, [], rfl, by simp [F.len], ⟨by simp [plainH], fun _ _ => ⟨rfl, rfl⟩⟩, RdS.none_, rfl, RdS.none_⟩, fun _ h => h.elim, by omega, hdr.symm, HR.out.to (q + 1) _ (by omega), HK.out.rdr _⟩
  . rw [Bool.not_eq_true] at hi
    rw [hi]
    have HO1 : Hid (O = mems [] d (s.drop q)) := Lib.hid (by
     rw [HE.out, mems_bl, HO.out]
     unfold objO opn
     unfold isM at hi
     cases hb : bl (s.drop p) with
     | nil => rfl
     | cons c r => rw [hb] at hi; simp at hi; simp only; rw [if_neg hi])
    clear hi HE HO
    go_wp2_with fail
    have HSE := Lib.hid (Seen.made 212 wc)
    obtain ⟨bm, hbm⟩ : ∃ bm, bm = wc.heap.size := ⟨_, rfl⟩
    have hobm : ob < bm := by rw [hbm]; exact HO0.out.lt
    have HR1 : Hid (Rdr (wc.alloc (.map #[] 0)) rb s q) := Lib.hid (Blk.alloc HR.out _)
    have HO2 : Hid (Blk (wc.alloc (.map #[] 0)) ob 329 #[.slice none 0 0, .slice none 0 0]) := Lib.hid (HO0.out.alloc _)
    have HK1 : Hid (Kp w.heap.size (· = rb) w (wc.alloc (.map #[] 0))) := Lib.hid (HK.out.alloc HK.out.size _)
    have HB : Hid ((wc.alloc (.map #[] 0)).heap.size = bm + 1) := Lib.hid (by rw [hbm]; simp)
    rw [<- hbm] at HSE ⊢
    clear hbm HR HO0 HK
    generalize wc.alloc (.map #[] 0) = w2 at HSE HR1 HO2 HK1 HB ⊢
    have HL0 := Lib.hid (KI.nil w2 w2.heap.size (Nat.le_refl _))
    have hobw : w.heap.size ≤ ob := by have := HOB.out; omega
    have HN2 : Hid (rb ≠ ob) := Lib.hid (by have := HW.out; have := HOB.out; omega)
    have HN3 : Hid (bm ≠ ob) := Lib.hid (by omega)
    have HN4 : Hid (ob < w2.heap.size) := Lib.hid (by have := HB.out; omega)
    have HN5 : Hid (rb ≠ bm) := Lib.hid (by have := HW.out; omega)
    have HW2 : Hid (rb < w2.heap.size) := Lib.hid (by have := HB.out; have := HW.out; omega)
    have HFK : Hid (∀ wx, Kp w2.heap.size (fun b => b = rb ∨ b = ob ∨ b = bm) w2 wx -> Kp w.heap.size (· = rb) w wx) := Lib.hid fun wx hk => HK1.out.trans (hk.mono HK1.out.size (fun b hb hx => by rcases hx with h | h | h <;> omega))
    go_loopg [8, 9, 10, 11, 12, 13, 14, 15, 16, 17] (s.length + 1) (fun gk _ _ _ _ _ _ _ _ _ _ wr => ∃ (q N : Nat) (ks : List (List UInt8)) (f : F) (v1 v2 : Value), p ≤ q /\ q ≤ s.length /\ s.length - q < gk /\ f.len ≤ q /\ ks.length ≤ q /\ N ≤ q /\ Hid (O = (mems ks d (s.drop q)).consG ks f) /\ Hid (Rdr wr rb s q) /\ Hid (Kp w2.heap.size (fun b => b = rb ∨ b = ob ∨ b = bm) w2 wr) /\ Hid (Blk wr ob 329 #[v1, v2]) /\ Hid (Seen 212 wr bm N ks) /\ Hid (KI wr w2.heap.size v1 ks v2 f))
    case atStart => exact ⟨q, 0, [], .nil, _, _, hpq, hq, by omega, by simp [F.len], by simp, by omega, Lib.hid (by rw [HO1.out, Out.consG_nil]), HR1, Lib.hid (Kp.refl _ _ _), HO2, HSE, HL0⟩
    case round =>
     clear HR1 HO1 HO2 HSE HL0 HK1
     obtain ⟨q0, N, ks, f, v1, v2, hpq0, hq0, hgk, hfq, hkq, hNq, HO, HR, HK, HOb, HSe, HL⟩ := hrel
     have HI := Lib.hid (mems_eq ks d (s.drop q0))
     cases hb : bl (s.drop q0) with
     | nil =>
      have HP : Hid (O = .err 2 []) := Lib.hid (by rw [HO.out, HI.out]; unfold key; rw [hb]; rfl)
      have HX := Lib.hid (next_short s hs q0 rb hq0 [34] hb wr HR.out)
      unfold faultV at HX
      clear hb HI HO
      go_wp2_with fail
      refine HX.out.mono ?_
      rintro x w4 ⟨q3, rfl, hq23, hq3, hr4, hk4⟩
      have HR4 := Lib.hid hr4
      have HK4 := Lib.hid (HFK.out _ (HK.out.trans (hk4.mono HK.out.size (fun _ _ h => .inl h))))
      clear hr4 hk4 HX
      go_wp2
      go_ret2
      rw [HP.out]
      exact ⟨_, q3, s.length, rfl, by simp, hq3, HR4.out, HK4.out⟩
     | cons c r =>
      obtain ⟨a, ha⟩ : ∃ a : Nat, a + r.length + 1 = s.length := by
        have := bl_len (s.drop q0)
        rw [hb, List.length_drop, List.length_cons] at this
        exact ⟨s.length - r.length - 1, by omega⟩
      by_cases h34 : c = 34
      . subst h34
        have HX := Lib.hid (next_ok s hs q0 rb hq0 [34] 34 r hb (by decide) wr HR.out)
        have HI1 : Hid (O = (match (match txt r with
         | .err no q => TO.err no q
         | .ok t q => if t ∈ ks then .err 11 (34 :: r) else colon t q) with
         | .err no r => Out.err no r
         | .ok t p => match val (d + 1) p with
           | .err no r => .err no r
           | .ok h k r => match nx 125 r with
            | .err no q => .err no q
            | .fin q => .ok ⟨6, 0, [], [t]⟩ (.cons h k .nil) q
            | .more q => (mems (ks ++ [t]) d q).consM t h k).consG ks f) := Lib.hid (by rw [HO.out, HI.out]; unfold key; rw [hb]; rfl)
        clear hb HI HO
        go_wp2_with fail
        refine HX.out.mono ?_
        rintro x w4 ⟨q1', rfl, hq01, hq1, hd1, hd0, hr4, hk4⟩
        obtain ⟨q1, rfl⟩ : ∃ q1, q1' = q1 + 1 := ⟨q1' - 1, by omega⟩
        rw [Nat.add_sub_cancel] at hd0
        have HD1 := Lib.hid hd1
        have hwr := hk4.size
        have ha1 : a = q1 := by have := (drop_cons_at hd0).2.2.2; omega
        subst ha1
        have hX : ∀ b, w2.heap.size ≤ b -> b < wr.heap.size -> ¬ b = rb := fun b h1 _ e => by have := HW2.out; omega
        have HR4 := Lib.hid (Rdr.to hr4 a (a : Int) rfl)
        have HK4 := Lib.hid (Kp.setCell (X := fun b => b = rb ∨ b = ob ∨ b = bm) (p := ⟨rb, 1, none⟩) (HK.out.trans (hk4.mono HK.out.size (fun _ _ h => .inl h))) (.inr (.inl rfl)) (.int .i64 (a : Int)))
        have HL4 := Lib.hid ((HL.out.kp hk4 (Nat.le_refl _) hX).kept (w' := w4.setCell ⟨rb, 1, none⟩ (.int .i64 (a : Int))) (fun b h1 _ => Below.heap_setCell _ _ _ _ (by have := HW2.out; simp; omega)) (by simp))
        have HO4 := Lib.hid (Blk.far (hk4.blk HOb.out HOb.out.lt (fun e => HN2.out e.symm)) (p := ⟨rb, 1, none⟩) (fun e => HN2.out e.symm) (.int .i64 (a : Int)))
        have HS4 := Lib.hid (HSe.out.block (w' := w4.setCell ⟨rb, 1, none⟩ (.int .i64 (a : Int))) ((Below.heap_setCell _ _ _ _ (fun e => HN5.out e.symm)).trans (hk4.block bm HSe.out.lt (fun e => HN5.out e.symm))))
        have c1 := hr4.c1
        have f1 := Blk.frozen hr4 1
        have e0 : ((a + 1 : Nat) : Int) = (a : Int) + 1 := by omega
        rw [e0] at c1
        rw [show ((UInt8.toNat 34 : Nat) : Int) = 34 from rfl]
        have HD0 := Lib.hid hd0
        clear hr4 hk4 HX hd1 hd0 e0 HR HK HOb HSe HL
        go_upto_region 10 with fail
        generalize w4.setCell ⟨rb, 1, none⟩ (.int .i64 (a : Int)) = w5 at HR4 HK4 HL4 HO4 HS4 ⊢
        have c1 := HR4.out.c1
        have HTX := Lib.hid (text_any s hs a rb (by omega) w5 HR4.out)
        rw [HD1.out] at HTX
        have hw5 := HK4.out.size
        have hX5 : ∀ b, w2.heap.size ≤ b -> b < w5.heap.size -> ¬ b = rb := fun b h1 _ e => by have := HW2.out; omega
        clear hX hwr
        cases ht : txt r with
        | err no r2 =>
         rw [ht] at HTX
         have HP : Hid (O = .err no r2) := Lib.hid (by rw [HI1.out, ht]; rfl)
         clear ht HI1
         go_wp2_with fail
         refine HTX.out.mono ?_
         rintro x w6 ⟨q3, a2, rfl, hl2, hq3, hr6, hk6⟩
         have HR6 := Lib.hid hr6
         have HK6 := Lib.hid (HFK.out _ (HK4.out.trans (hk6.mono hw5 (fun _ _ h => .inl h))))
         have HLn := Lib.hid hl2
         clear hr6 hk6 hl2 HTX c1
         unfold faultV
         go_wp2
         go_ret2
         rw [HP.out]
         exact ⟨_, q3, a2, rfl, HLn.out, hq3, HR6.out, HK6.out⟩
        | ok t r2 =>
         rw [ht] at HTX
         have htl := txt_len _ _ _ _ (Nat.le_refl _) ht
         go_wp2_with fail
         refine HTX.out.mono ?_
         rintro x w6 ⟨q2, rfl, hq2, rfl, hr6, hk6⟩
         have hq12 : a + 1 < q2 := by rw [List.length_drop] at htl; omega
         have HTL : Hid (t.length ≤ 4398046511104) := Lib.hid (by omega)
         have HR6 := Lib.hid hr6
         have HK6 := Lib.hid (HK4.out.trans (hk6.mono hw5 (fun _ _ h => .inl h)))
         have HL6 := Lib.hid (HL4.out.kp hk6 (Nat.le_refl _) hX5)
         have HO6 := Lib.hid (hk6.blk HO4.out HO4.out.lt (fun e => HN2.out e.symm))
         have HS6 := Lib.hid (HS4.out.block (hk6.block bm HS4.out.lt (fun e => HN5.out e.symm)))
         have hlk := HS6.out.look Tryz.underlying212 Tryz.underlying341 t (by have := HTL.out; omega)
         have hw6 := HK6.out.size
         clear hr6 hk6 HTX c1 HR4 HK4 HL4 HO4 HS4 hX5 hw5
         by_cases hin : t ∈ ks
         . rw [decide_eq_true hin] at hlk
           have HP : Hid (O = .err 11 (34 :: r)) := Lib.hid (by rw [HI1.out, ht]; simp only; rw [if_pos hin]; rfl)
           have HF := Lib.hid (fault_any 11 a)
           unfold faultV at HF
           clear hin ht HI1 htl
           go_wp2_with fail
           refine (HF.out _).mono ?_
           rintro x w7 ⟨rfl, hb7⟩
           have HR7 : Hid (Rdr w7 rb s q2) := Lib.hid (HR6.out.below hb7 HR6.out.lt)
           have HK7 := Lib.hid (HFK.out _ (HK6.out.step hb7 hw6))
           clear hb7
           go_wp2
           go_ret2
           rw [HP.out]
           exact ⟨_, q2, a, rfl, by simp; omega, hq2, HR7.out, HK7.out⟩
         . rw [decide_eq_false hin] at hlk
           have HI2 : Hid (O = (match colon t (s.drop q2) with
            | .err no r => Out.err no r
            | .ok t p => match val (d + 1) p with
              | .err no r => .err no r
              | .ok h k r => match nx 125 r with
               | .err no q => .err no q
               | .fin q => .ok ⟨6, 0, [], [t]⟩ (.cons h k .nil) q
               | .more q => (mems (ks ++ [t]) d q).consM t h k).consG ks f) := Lib.hid (by rw [HI1.out, ht]; simp only; rw [if_neg hin])
           clear hin ht HI1 htl
           go_wp2_with (at_mapUpdate; refine wpList_seen rfl _ _ _ rfl rfl HS6.out Tryz.underlying212 Tryz.underlying341 (by omega) t rfl rfl (by have := HTL.out; omega) ?_; intro w7 hs7 hg7)
           have HR7 : Hid (Rdr w7 rb s q2) := Lib.hid (HR6.out.grown hg7 (fun e => HN5.out (by injection e)))
           have HK7 := Lib.hid (HK6.out.grown hg7 hw6 (fun k hk => .inr (.inr (.inr (by injection hk with hk; exact hk.symm)))))
           have HO7 := Lib.hid (HO6.out.grown hg7 (fun e => HN3.out (by injection e with e; exact e.symm)))
           have HL7 := Lib.hid (HL6.out.kept (w' := w7) (fun b h1 h2 => hg7.block b h2 (fun e => by injection e with e; have := HB.out; omega)) hg7.size)
           have HS7 := Lib.hid hs7
           have hw7 := HK7.out.size
           have hX7 : ∀ b, w2.heap.size ≤ b -> b < w7.heap.size -> ¬ b = rb := fun b h1 _ e => by have := HW2.out; omega
           clear hs7 hg7 hlk HR6 HK6 HL6 HO6 HS6 hw6
           cases hb2 : bl (s.drop q2) with
           | nil =>
            have HP : Hid (O = .err 2 []) := Lib.hid (by rw [HI2.out]; unfold colon; rw [hb2]; rfl)
            have HX := Lib.hid (next_short s hs q2 rb hq2 [58] hb2 w7 HR7.out)
            unfold faultV at HX
            clear hb2 HI2
            go_wp2_with fail
            refine HX.out.mono ?_
            rintro x w8 ⟨q3, rfl, hq23, hq3, hr8, hk8⟩
            have HR8 := Lib.hid hr8
            have HK8 := Lib.hid (HFK.out _ (HK7.out.trans (hk8.mono hw7 (fun _ _ h => .inl h))))
            clear hr8 hk8 HX
            go_wp2
            go_ret2
            rw [HP.out]
            exact ⟨_, q3, s.length, rfl, by simp, hq3, HR8.out, HK8.out⟩
           | cons c2 r2 =>
            obtain ⟨a2, ha2⟩ : ∃ a2 : Nat, a2 + r2.length + 1 = s.length := by
              have := bl_len (s.drop q2)
              rw [hb2, List.length_drop, List.length_cons] at this
              exact ⟨s.length - r2.length - 1, by omega⟩
            by_cases h58 : c2 = 58
            . subst h58
              have HX := Lib.hid (next_ok s hs q2 rb hq2 [58] 58 r2 hb2 (by decide) w7 HR7.out)
              have HI3 : Hid (O = (match val (d + 1) r2 with
               | .err no r => Out.err no r
               | .ok h k r => match nx 125 r with
                | .err no q => .err no q
                | .fin q => .ok ⟨6, 0, [], [t]⟩ (.cons h k .nil) q
                | .more q => (mems (ks ++ [t]) d q).consM t h k).consG ks f) := Lib.hid (by rw [HI2.out]; unfold colon; rw [hb2]; rfl)
              clear hb2 HI2
              go_wp2_with fail
              refine HX.out.mono ?_
              rintro x w8 ⟨q3, rfl, hq23, hq3, hd3, _, hr8, hk8⟩
              have HR8 := Lib.hid hr8
              have HK8 := Lib.hid (HK7.out.trans (hk8.mono hw7 (fun _ _ h => .inl h)))
              have HL8 := Lib.hid (HL7.out.kp hk8 (Nat.le_refl _) hX7)
              have HO8 := Lib.hid (hk8.blk HO7.out HO7.out.lt (fun e => HN2.out e.symm))
              have HS8 := Lib.hid (HS7.out.block (hk8.block bm HS7.out.lt (fun e => HN5.out e.symm)))
              have hw8 := HK8.out.size
              have hX8 : ∀ b, w2.heap.size ≤ b -> b < w8.heap.size -> ¬ b = rb := fun b h1 _ e => by have := HW2.out; omega
              have e1 : ((d + 1 : Nat) : Int) = (d : Int) + 1 := by omega
              have HC := Lib.hid (HN.out q3 (d + 1) w8 hq3 (by have := HM.out; omega) (by omega) (HST.out.rdr (HFK.out _ HK8.out) HRB.out) HR8.out)
              rw [e1, hd3] at HC
              rw [show ((UInt8.toNat 58 : Nat) : Int) = 58 from rfl]
              have HD3 := Lib.hid hd3
              clear e1 hr8 hk8 HX hd3 HR7 HK7 HL7 HO7 HS7 hX7 hw7
              cases hV : val (d + 1) r2 with
              | err no r3 =>
               have HP : Hid (O = .err no r3) := Lib.hid (by rw [HI3.out, hV]; rfl)
               rw [hV] at HC
               clear hV HI3
               go_wp2_with fail
               refine HC.out.mono ?_
               rintro x w9 ⟨u, q4, a4, rfl, hl4, hq4, hr9, hk9⟩
               have HR9 := Lib.hid hr9
               have HK9 := Lib.hid (HFK.out _ (HK8.out.trans (hk9.mono hw8 (fun _ _ h => .inl h))))
               have HLn := Lib.hid hl4
               clear hr9 hk9 hl4 HC
               unfold faultV
               go_wp2
               go_ret2
               rw [HP.out]
               exact ⟨_, q4, a4, rfl, HLn.out, hq4, HR9.out, HK9.out⟩
              | ok h k r3 =>
               rw [hV] at HC
               have hvl := val_len hV
               have HI4 : Hid (O = (match nx 125 r3 with
                | .err no q => Out.err no q
                | .fin q => .ok ⟨6, 0, [], [t]⟩ (.cons h k .nil) q
                | .more q => (mems (ks ++ [t]) d q).consM t h k).consG ks f) := Lib.hid (by rw [HI3.out, hV])
               clear hV HI3
               go_wp2_with fail
               refine HC.out.mono ?_
               rintro x w9 ⟨u, q4, S, rfl, htv, hS, hq4, rfl, hr9, hk9⟩
               obtain ⟨T, y, rfl⟩ := htv.iface
               rw [<- HD3.out, List.length_drop, List.length_drop] at hvl
               have hq34 : q3 < q4 := by omega
               have HR9 := Lib.hid hr9
               have HK9 := Lib.hid (HK8.out.trans (hk9.mono hw8 (fun _ _ h => .inl h)))
               have HL9 := Lib.hid (HL8.out.kp hk9 (Nat.le_refl _) hX8)
               have HO9 := Lib.hid (hk9.blk HO8.out HO8.out.lt (fun e => HN2.out e.symm))
               have HS9 := Lib.hid (HS8.out.block (hk9.block bm HS8.out.lt (fun e => HN5.out e.symm)))
               have HU9 : Hid (TU w9 w2.heap.size v1 v2 S h k (.iface T y)) := Lib.hid ⟨htv.tr, fun b hb => ⟨by have := (hS b hb).1; omega, (hS b hb).2, fun e => by have := own_lt HL8.out.keys e; have := (hS b hb).1; omega, fun e => by
                obtain ⟨_, _, ho8, _⟩ := HL8.out.items
                have := own_lt ho8 e; have := (hS b hb).1; omega⟩⟩
               have hkl6 : ks.length ≤ 4398046511104 := by omega
               have hfl6 : f.len ≤ 4398046511104 := by omega
               clear htv hS hr9 hk9 hvl HC HR8 HK8 HL8 HO8 HS8 hX8 hw8
               go_upto_region 23 with fail
               go_cut [98] (fun _ wx => ∃ v1' v2' : Value, Hid (Blk wx ob 329 #[v1', v2']) /\ Hid (Rdr wx rb s q4) /\ Hid (Kp w2.heap.size (fun b => b = rb ∨ b = ob ∨ b = bm) w2 wx) /\ Hid (Seen 212 wx bm (N + 1) (ks ++ [t])) /\ Hid (KI wx w2.heap.size v1' (ks ++ [t]) v2' (f.app (.cons h k .nil))))
               case first =>
                have HB0 := Lib.hid (OB.drew (OB.mk (w0 := w2) (g1 := none) (g2 := none) HR9.out HK9.out HO9.out HS9.out HL9.out HU9.out (t := t) (fun g e => by cases e) (fun g e => by cases e)))
                clear HR9 HK9 HO9 HS9 HL9 HU9
                refine wp_region_R (S := (fun wy => wy.cell? ⟨ob, 1, none⟩ = some v2)) 13 (by kernel_rfl) HB0.out.z1 (fun _ => ?_)
                generalize w9.drew = w6 at HB0 ⊢
                refine tkR 0 (hS := HB0.out.z1) (h := ?_)
                try simp only [Act.put, List.setIfInBounds_toArray, List.set_cons_zero, List.set_cons_succ]
                refine tkR 2 (hS := HB0.out.z1) (h := ?_)
                try simp only [Act.put, List.setIfInBounds_toArray, List.set_cons_zero, List.set_cons_succ]
                refine tkR 5 (hS := HB0.out.z1) (h := ?_)
                try simp only [Act.put, List.setIfInBounds_toArray, List.set_cons_zero, List.set_cons_succ]
                refine tkR 7 (hS := HB0.out.z1) (h := ?_)
                try simp only [Act.put, List.setIfInBounds_toArray, List.set_cons_zero, List.set_cons_succ]
                refine tkR 6 (hS := HB0.out.z1) (h := ?_)
                try simp only [Act.put, List.setIfInBounds_toArray, List.set_cons_zero, List.set_cons_succ]
                refine wpAnyR_ready (rs := [1, 3, 8]) (by kernel_rfl) (by simp) ?_
                refine rdyR (fun K hK => ?_) (rdyR (fun K hK => ?_) (rdyR (fun K hK => ?_) AllReadyR.nil))
                . skip
                  rw [if_pos (by rfl)]
                  have cc := HB0.out.z0
                  go_simp
                  clear cc
                  refine hK.out _ _ (fun _ => HB0.out.z1) (fun _ => ?_)
                  clear hK
                  try simp only [Act.put, List.setIfInBounds_toArray, List.set_cons_zero, List.set_cons_succ]
                  refine wpAnyR_ready (rs := [3, 8]) (by kernel_rfl) (by simp) ?_
                  refine rdyR (fun K hK => ?_) (rdyR (fun K hK => ?_) AllReadyR.nil)
                  . skip
                    rw [if_pos (by rfl)]
                    go_simp
                    have HB2 := Lib.hid (OB.put1 HB0.out)
                    refine hK.out _ _ (fun _ => HB2.out.z1) (fun _ => ?_)
                    clear hK
                    generalize w6.heap.size = g2 at HB2 ⊢
                    generalize w6.alloc _ = wx2 at HB2 ⊢
                    try simp only [Act.put, List.setIfInBounds_toArray, List.set_cons_zero, List.set_cons_succ]
                    refine wpAnyR_ready (rs := [4, 8]) (by kernel_rfl) (by simp) ?_
                    refine rdyR (fun K hK => ?_) (rdyR (fun K hK => ?_) AllReadyR.nil)
                    . skip
                      rw [if_pos (by rfl)]
                      refine step_key _ _ rfl HB2.out HW2.out rfl rfl hkl6 ?_
                      intro v13 wx3 hb
                      have HB3 := Lib.hid hb
                      clear hb
                      refine hK.out _ _ (fun _ => HB3.out.z1) (fun _ => ?_)
                      clear hK
                      try simp only [Act.put, List.setIfInBounds_toArray, List.set_cons_zero, List.set_cons_succ]
                      refine tkR 10 (hS := HB3.out.z1) (h := ?_)
                      try simp only [Act.put, List.setIfInBounds_toArray, List.set_cons_zero, List.set_cons_succ]
                      refine oneR 8 (fun K hK => ?_)
                      rw [if_pos (by rfl)]
                      go_simp
                      have HB4 := Lib.hid (OB.put2 HB3.out)
                      refine hK.out _ _ (fun _ => HB4.out.z1) (fun _ => ?_)
                      clear hK
                      generalize wx3.heap.size = g4 at HB4 ⊢
                      generalize wx3.alloc _ = wx4 at HB4 ⊢
                      try simp only [Act.put, List.setIfInBounds_toArray, List.set_cons_zero, List.set_cons_succ]
                      refine oneR 9 (fun K hK => ?_)
                      rw [if_pos (by rfl)]
                      refine step_item _ _ rfl HB4.out HW2.out rfl rfl hfl6 ?_
                      intro v25 wx5 hr6 hk6 ho6 hs6 hl6
                      refine hK.out _ _ (fun _ => ho6.cell 1) (fun _ => ?_)
                      clear hK
                      try simp only [Act.put, List.setIfInBounds_toArray, List.set_cons_zero, List.set_cons_succ]
                      obtain ⟨⟨A1, m1, n1, rfl⟩, ⟨A2, m2, n2, rfl⟩⟩ := hl6.formn
                      have hf6 := ho6.frozen 0
                      have hf7 := ho6.frozen 1
                      have hz6 := ho6.cell 0
                      have hz7 := ho6.cell 1
                      refine oneR 11 (fun K hK => ?_)
                      rw [if_pos (by rfl)]
                      go_simp
                      refine hK.out _ _ (fun _ => (ho6.set_ 0 _).cell 1) (fun _ => ?_)
                      clear hK
                      try simp only [Act.put, List.setIfInBounds_toArray, List.set_cons_zero, List.set_cons_succ]
                      refine tkR 12 (hS := ((ho6.set_ 0 _).cell 1)) (h := ?_)
                      try simp only [Act.put, List.setIfInBounds_toArray, List.set_cons_zero, List.set_cons_succ]
                      refine oneR 13 (fun K hK => ?_)
                      rw [if_pos (by rfl)]
                      go_simp
                      refine hK.out _ _ (fun h => absurd rfl h) (fun _ => ?_)
                      clear hK
                      try simp only [Act.put, List.setIfInBounds_toArray, List.set_cons_zero, List.set_cons_succ]
                      refine wpAnyR_done (by kernel_rfl) ?_ _
                      go_wp2_with fail
                      go_meet
                      exact ⟨_, _, Lib.hid ((ho6.set_ 0 _).set_ 1 _), Lib.hid (Blk.far (Blk.far hr6 (p := ⟨ob, 0, none⟩) HN2.out _) (p := ⟨ob, 1, none⟩) HN2.out _), Lib.hid ((hk6.setCell (p := ⟨ob, 0, none⟩) (.inr (.inr (.inl rfl))) _).setCell (p := ⟨ob, 1, none⟩) (.inr (.inr (.inl rfl))) _), Lib.hid ((hs6.setCell (p := ⟨ob, 0, none⟩) HN3.out _).setCell (p := ⟨ob, 1, none⟩) HN3.out _), Lib.hid ((hl6.setCell (p := ⟨ob, 0, none⟩) HN4.out _).setCell (p := ⟨ob, 1, none⟩) HN4.out _)⟩
                    . skip
                      rw [if_pos (by rfl)]
                      go_simp
                      have HB6 := Lib.hid (OB.put2 HB2.out)
                      refine hK.out _ _ (fun _ => HB6.out.z1) (fun _ => ?_)
                      clear hK
                      generalize wx2.heap.size = g6 at HB6 ⊢
                      generalize wx2.alloc _ = wx6 at HB6 ⊢
                      try simp only [Act.put, List.setIfInBounds_toArray, List.set_cons_zero, List.set_cons_succ]
                      refine oneR 4 (fun K hK => ?_)
                      rw [if_pos (by rfl)]
                      refine step_key _ _ rfl HB6.out HW2.out rfl rfl hkl6 ?_
                      intro v17 wx7 hb
                      have HB7 := Lib.hid hb
                      clear hb
                      refine hK.out _ _ (fun _ => HB7.out.z1) (fun _ => ?_)
                      clear hK
                      try simp only [Act.put, List.setIfInBounds_toArray, List.set_cons_zero, List.set_cons_succ]
                      refine tkR 10 (hS := HB7.out.z1) (h := ?_)
                      try simp only [Act.put, List.setIfInBounds_toArray, List.set_cons_zero, List.set_cons_succ]
                      refine oneR 9 (fun K hK => ?_)
                      rw [if_pos (by rfl)]
                      refine step_item _ _ rfl HB7.out HW2.out rfl rfl hfl6 ?_
                      intro v28 wx8 hr6 hk6 ho6 hs6 hl6
                      refine hK.out _ _ (fun _ => ho6.cell 1) (fun _ => ?_)
                      clear hK
                      try simp only [Act.put, List.setIfInBounds_toArray, List.set_cons_zero, List.set_cons_succ]
                      obtain ⟨⟨A1, m1, n1, rfl⟩, ⟨A2, m2, n2, rfl⟩⟩ := hl6.formn
                      have hf6 := ho6.frozen 0
                      have hf7 := ho6.frozen 1
                      have hz6 := ho6.cell 0
                      have hz7 := ho6.cell 1
                      refine oneR 11 (fun K hK => ?_)
                      rw [if_pos (by rfl)]
                      go_simp
                      refine hK.out _ _ (fun _ => (ho6.set_ 0 _).cell 1) (fun _ => ?_)
                      clear hK
                      try simp only [Act.put, List.setIfInBounds_toArray, List.set_cons_zero, List.set_cons_succ]
                      refine tkR 12 (hS := ((ho6.set_ 0 _).cell 1)) (h := ?_)
                      try simp only [Act.put, List.setIfInBounds_toArray, List.set_cons_zero, List.set_cons_succ]
                      refine oneR 13 (fun K hK => ?_)
                      rw [if_pos (by rfl)]
                      go_simp
                      refine hK.out _ _ (fun h => absurd rfl h) (fun _ => ?_)
                      clear hK
                      try simp only [Act.put, List.setIfInBounds_toArray, List.set_cons_zero, List.set_cons_succ]
                      refine wpAnyR_done (by kernel_rfl) ?_ _
                      go_wp2_with fail
                      go_meet
                      exact ⟨_, _, Lib.hid ((ho6.set_ 0 _).set_ 1 _), Lib.hid (Blk.far (Blk.far hr6 (p := ⟨ob, 0, none⟩) HN2.out _) (p := ⟨ob, 1, none⟩) HN2.out _), Lib.hid ((hk6.setCell (p := ⟨ob, 0, none⟩) (.inr (.inr (.inl rfl))) _).setCell (p := ⟨ob, 1, none⟩) (.inr (.inr (.inl rfl))) _), Lib.hid ((hs6.setCell (p := ⟨ob, 0, none⟩) HN3.out _).setCell (p := ⟨ob, 1, none⟩) HN3.out _), Lib.hid ((hl6.setCell (p := ⟨ob, 0, none⟩) HN4.out _).setCell (p := ⟨ob, 1, none⟩) HN4.out _)⟩
                  . skip
                    rw [if_pos (by rfl)]
                    go_simp
                    have HB9 := Lib.hid (OB.put2 HB0.out)
                    refine hK.out _ _ (fun _ => HB9.out.z1) (fun _ => ?_)
                    clear hK
                    generalize w6.heap.size = g9 at HB9 ⊢
                    generalize w6.alloc _ = wx9 at HB9 ⊢
                    try simp only [Act.put, List.setIfInBounds_toArray, List.set_cons_zero, List.set_cons_succ]
                    refine oneR 3 (fun K hK => ?_)
                    rw [if_pos (by rfl)]
                    go_simp
                    have HB10 := Lib.hid (OB.put1 HB9.out)
                    refine hK.out _ _ (fun _ => HB10.out.z1) (fun _ => ?_)
                    clear hK
                    generalize wx9.heap.size = g10 at HB10 ⊢
                    generalize wx9.alloc _ = wx10 at HB10 ⊢
                    try simp only [Act.put, List.setIfInBounds_toArray, List.set_cons_zero, List.set_cons_succ]
                    refine oneR 4 (fun K hK => ?_)
                    rw [if_pos (by rfl)]
                    refine step_key _ _ rfl HB10.out HW2.out rfl rfl hkl6 ?_
                    intro v111 wx11 hb
                    have HB11 := Lib.hid hb
                    clear hb
                    refine hK.out _ _ (fun _ => HB11.out.z1) (fun _ => ?_)
                    clear hK
                    try simp only [Act.put, List.setIfInBounds_toArray, List.set_cons_zero, List.set_cons_succ]
                    refine tkR 10 (hS := HB11.out.z1) (h := ?_)
                    try simp only [Act.put, List.setIfInBounds_toArray, List.set_cons_zero, List.set_cons_succ]
                    refine oneR 9 (fun K hK => ?_)
                    rw [if_pos (by rfl)]
                    refine step_item _ _ rfl HB11.out HW2.out rfl rfl hfl6 ?_
                    intro v212 wx12 hr6 hk6 ho6 hs6 hl6
                    refine hK.out _ _ (fun _ => ho6.cell 1) (fun _ => ?_)
                    clear hK
                    try simp only [Act.put, List.setIfInBounds_toArray, List.set_cons_zero, List.set_cons_succ]
                    obtain ⟨⟨A1, m1, n1, rfl⟩, ⟨A2, m2, n2, rfl⟩⟩ := hl6.formn
                    have hf6 := ho6.frozen 0
                    have hf7 := ho6.frozen 1
                    have hz6 := ho6.cell 0
                    have hz7 := ho6.cell 1
                    refine oneR 11 (fun K hK => ?_)
                    rw [if_pos (by rfl)]
                    go_simp
                    refine hK.out _ _ (fun _ => (ho6.set_ 0 _).cell 1) (fun _ => ?_)
                    clear hK
                    try simp only [Act.put, List.setIfInBounds_toArray, List.set_cons_zero, List.set_cons_succ]
                    refine tkR 12 (hS := ((ho6.set_ 0 _).cell 1)) (h := ?_)
                    try simp only [Act.put, List.setIfInBounds_toArray, List.set_cons_zero, List.set_cons_succ]
                    refine oneR 13 (fun K hK => ?_)
                    rw [if_pos (by rfl)]
                    go_simp
                    refine hK.out _ _ (fun h => absurd rfl h) (fun _ => ?_)
                    clear hK
                    try simp only [Act.put, List.setIfInBounds_toArray, List.set_cons_zero, List.set_cons_succ]
                    refine wpAnyR_done (by kernel_rfl) ?_ _
                    go_wp2_with fail
                    go_meet
                    exact ⟨_, _, Lib.hid ((ho6.set_ 0 _).set_ 1 _), Lib.hid (Blk.far (Blk.far hr6 (p := ⟨ob, 0, none⟩) HN2.out _) (p := ⟨ob, 1, none⟩) HN2.out _), Lib.hid ((hk6.setCell (p := ⟨ob, 0, none⟩) (.inr (.inr (.inl rfl))) _).setCell (p := ⟨ob, 1, none⟩) (.inr (.inr (.inl rfl))) _), Lib.hid ((hs6.setCell (p := ⟨ob, 0, none⟩) HN3.out _).setCell (p := ⟨ob, 1, none⟩) HN3.out _), Lib.hid ((hl6.setCell (p := ⟨ob, 0, none⟩) HN4.out _).setCell (p := ⟨ob, 1, none⟩) HN4.out _)⟩
                . skip
                  rw [if_pos (by rfl)]
                  go_simp
                  have HB13 := Lib.hid (OB.put1 HB0.out)
                  refine hK.out _ _ (fun _ => HB13.out.z1) (fun _ => ?_)
                  clear hK
                  generalize w6.heap.size = g13 at HB13 ⊢
                  generalize w6.alloc _ = wx13 at HB13 ⊢
                  try simp only [Act.put, List.setIfInBounds_toArray, List.set_cons_zero, List.set_cons_succ]
                  refine wpAnyR_ready (rs := [1, 8]) (by kernel_rfl) (by simp) ?_
                  refine rdyR (fun K hK => ?_) (rdyR (fun K hK => ?_) AllReadyR.nil)
                  . skip
                    rw [if_pos (by rfl)]
                    have cc := HB13.out.z0
                    go_simp
                    clear cc
                    refine hK.out _ _ (fun _ => HB13.out.z1) (fun _ => ?_)
                    clear hK
                    try simp only [Act.put, List.setIfInBounds_toArray, List.set_cons_zero, List.set_cons_succ]
                    refine wpAnyR_ready (rs := [4, 8]) (by kernel_rfl) (by simp) ?_
                    refine rdyR (fun K hK => ?_) (rdyR (fun K hK => ?_) AllReadyR.nil)
                    . skip
                      rw [if_pos (by rfl)]
                      refine step_key _ _ rfl HB13.out HW2.out rfl rfl hkl6 ?_
                      intro v115 wx15 hb
                      have HB15 := Lib.hid hb
                      clear hb
                      refine hK.out _ _ (fun _ => HB15.out.z1) (fun _ => ?_)
                      clear hK
                      try simp only [Act.put, List.setIfInBounds_toArray, List.set_cons_zero, List.set_cons_succ]
                      refine tkR 10 (hS := HB15.out.z1) (h := ?_)
                      try simp only [Act.put, List.setIfInBounds_toArray, List.set_cons_zero, List.set_cons_succ]
                      refine oneR 8 (fun K hK => ?_)
                      rw [if_pos (by rfl)]
                      go_simp
                      have HB16 := Lib.hid (OB.put2 HB15.out)
                      refine hK.out _ _ (fun _ => HB16.out.z1) (fun _ => ?_)
                      clear hK
                      generalize wx15.heap.size = g16 at HB16 ⊢
                      generalize wx15.alloc _ = wx16 at HB16 ⊢
                      try simp only [Act.put, List.setIfInBounds_toArray, List.set_cons_zero, List.set_cons_succ]
                      refine oneR 9 (fun K hK => ?_)
                      rw [if_pos (by rfl)]
                      refine step_item _ _ rfl HB16.out HW2.out rfl rfl hfl6 ?_
                      intro v217 wx17 hr6 hk6 ho6 hs6 hl6
                      refine hK.out _ _ (fun _ => ho6.cell 1) (fun _ => ?_)
                      clear hK
                      try simp only [Act.put, List.setIfInBounds_toArray, List.set_cons_zero, List.set_cons_succ]
                      obtain ⟨⟨A1, m1, n1, rfl⟩, ⟨A2, m2, n2, rfl⟩⟩ := hl6.formn
                      have hf6 := ho6.frozen 0
                      have hf7 := ho6.frozen 1
                      have hz6 := ho6.cell 0
                      have hz7 := ho6.cell 1
                      refine oneR 11 (fun K hK => ?_)
                      rw [if_pos (by rfl)]
                      go_simp
                      refine hK.out _ _ (fun _ => (ho6.set_ 0 _).cell 1) (fun _ => ?_)
                      clear hK
                      try simp only [Act.put, List.setIfInBounds_toArray, List.set_cons_zero, List.set_cons_succ]
                      refine tkR 12 (hS := ((ho6.set_ 0 _).cell 1)) (h := ?_)
                      try simp only [Act.put, List.setIfInBounds_toArray, List.set_cons_zero, List.set_cons_succ]
                      refine oneR 13 (fun K hK => ?_)
                      rw [if_pos (by rfl)]
                      go_simp
                      refine hK.out _ _ (fun h => absurd rfl h) (fun _ => ?_)
                      clear hK
                      try simp only [Act.put, List.setIfInBounds_toArray, List.set_cons_zero, List.set_cons_succ]
                      refine wpAnyR_done (by kernel_rfl) ?_ _
                      go_wp2_with fail
                      go_meet
                      exact ⟨_, _, Lib.hid ((ho6.set_ 0 _).set_ 1 _), Lib.hid (Blk.far (Blk.far hr6 (p := ⟨ob, 0, none⟩) HN2.out _) (p := ⟨ob, 1, none⟩) HN2.out _), Lib.hid ((hk6.setCell (p := ⟨ob, 0, none⟩) (.inr (.inr (.inl rfl))) _).setCell (p := ⟨ob, 1, none⟩) (.inr (.inr (.inl rfl))) _), Lib.hid ((hs6.setCell (p := ⟨ob, 0, none⟩) HN3.out _).setCell (p := ⟨ob, 1, none⟩) HN3.out _), Lib.hid ((hl6.setCell (p := ⟨ob, 0, none⟩) HN4.out _).setCell (p := ⟨ob, 1, none⟩) HN4.out _)⟩
                    . skip
                      rw [if_pos (by rfl)]
                      go_simp
                      have HB18 := Lib.hid (OB.put2 HB13.out)
                      refine hK.out _ _ (fun _ => HB18.out.z1) (fun _ => ?_)
                      clear hK
                      generalize wx13.heap.size = g18 at HB18 ⊢
                      generalize wx13.alloc _ = wx18 at HB18 ⊢
                      try simp only [Act.put, List.setIfInBounds_toArray, List.set_cons_zero, List.set_cons_succ]
                      refine oneR 4 (fun K hK => ?_)
                      rw [if_pos (by rfl)]
                      refine step_key _ _ rfl HB18.out HW2.out rfl rfl hkl6 ?_
                      intro v119 wx19 hb
                      have HB19 := Lib.hid hb
                      clear hb
                      refine hK.out _ _ (fun _ => HB19.out.z1) (fun _ => ?_)
                      clear hK
                      try simp only [Act.put, List.setIfInBounds_toArray, List.set_cons_zero, List.set_cons_succ]
                      refine tkR 10 (hS := HB19.out.z1) (h := ?_)
                      try simp only [Act.put, List.setIfInBounds_toArray, List.set_cons_zero, List.set_cons_succ]
                      refine oneR 9 (fun K hK => ?_)
                      rw [if_pos (by rfl)]
                      refine step_item _ _ rfl HB19.out HW2.out rfl rfl hfl6 ?_
                      intro v220 wx20 hr6 hk6 ho6 hs6 hl6
                      refine hK.out _ _ (fun _ => ho6.cell 1) (fun _ => ?_)
                      clear hK
                      try simp only [Act.put, List.setIfInBounds_toArray, List.set_cons_zero, List.set_cons_succ]
                      obtain ⟨⟨A1, m1, n1, rfl⟩, ⟨A2, m2, n2, rfl⟩⟩ := hl6.formn
                      have hf6 := ho6.frozen 0
                      have hf7 := ho6.frozen 1
                      have hz6 := ho6.cell 0
                      have hz7 := ho6.cell 1
                      refine oneR 11 (fun K hK => ?_)
                      rw [if_pos (by rfl)]
                      go_simp
                      refine hK.out _ _ (fun _ => (ho6.set_ 0 _).cell 1) (fun _ => ?_)
                      clear hK
                      try simp only [Act.put, List.setIfInBounds_toArray, List.set_cons_zero, List.set_cons_succ]
                      refine tkR 12 (hS := ((ho6.set_ 0 _).cell 1)) (h := ?_)
                      try simp only [Act.put, List.setIfInBounds_toArray, List.set_cons_zero, List.set_cons_succ]
                      refine oneR 13 (fun K hK => ?_)
                      rw [if_pos (by rfl)]
                      go_simp
                      refine hK.out _ _ (fun h => absurd rfl h) (fun _ => ?_)
                      clear hK
                      try simp only [Act.put, List.setIfInBounds_toArray, List.set_cons_zero, List.set_cons_succ]
                      refine wpAnyR_done (by kernel_rfl) ?_ _
                      go_wp2_with fail
                      go_meet
                      exact ⟨_, _, Lib.hid ((ho6.set_ 0 _).set_ 1 _), Lib.hid (Blk.far (Blk.far hr6 (p := ⟨ob, 0, none⟩) HN2.out _) (p := ⟨ob, 1, none⟩) HN2.out _), Lib.hid ((hk6.setCell (p := ⟨ob, 0, none⟩) (.inr (.inr (.inl rfl))) _).setCell (p := ⟨ob, 1, none⟩) (.inr (.inr (.inl rfl))) _), Lib.hid ((hs6.setCell (p := ⟨ob, 0, none⟩) HN3.out _).setCell (p := ⟨ob, 1, none⟩) HN3.out _), Lib.hid ((hl6.setCell (p := ⟨ob, 0, none⟩) HN4.out _).setCell (p := ⟨ob, 1, none⟩) HN4.out _)⟩
                  . skip
                    rw [if_pos (by rfl)]
                    go_simp
                    have HB21 := Lib.hid (OB.put2 HB13.out)
                    refine hK.out _ _ (fun _ => HB21.out.z1) (fun _ => ?_)
                    clear hK
                    generalize wx13.heap.size = g21 at HB21 ⊢
                    generalize wx13.alloc _ = wx21 at HB21 ⊢
                    try simp only [Act.put, List.setIfInBounds_toArray, List.set_cons_zero, List.set_cons_succ]
                    refine oneR 1 (fun K hK => ?_)
                    rw [if_pos (by rfl)]
                    have cc := HB21.out.z0
                    go_simp
                    clear cc
                    refine hK.out _ _ (fun _ => HB21.out.z1) (fun _ => ?_)
                    clear hK
                    try simp only [Act.put, List.setIfInBounds_toArray, List.set_cons_zero, List.set_cons_succ]
                    refine oneR 4 (fun K hK => ?_)
                    rw [if_pos (by rfl)]
                    refine step_key _ _ rfl HB21.out HW2.out rfl rfl hkl6 ?_
                    intro v123 wx23 hb
                    have HB23 := Lib.hid hb
                    clear hb
                    refine hK.out _ _ (fun _ => HB23.out.z1) (fun _ => ?_)
                    clear hK
                    try simp only [Act.put, List.setIfInBounds_toArray, List.set_cons_zero, List.set_cons_succ]
                    refine tkR 10 (hS := HB23.out.z1) (h := ?_)
                    try simp only [Act.put, List.setIfInBounds_toArray, List.set_cons_zero, List.set_cons_succ]
                    refine oneR 9 (fun K hK => ?_)
                    rw [if_pos (by rfl)]
                    refine step_item _ _ rfl HB23.out HW2.out rfl rfl hfl6 ?_
                    intro v224 wx24 hr6 hk6 ho6 hs6 hl6
                    refine hK.out _ _ (fun _ => ho6.cell 1) (fun _ => ?_)
                    clear hK
                    try simp only [Act.put, List.setIfInBounds_toArray, List.set_cons_zero, List.set_cons_succ]
                    obtain ⟨⟨A1, m1, n1, rfl⟩, ⟨A2, m2, n2, rfl⟩⟩ := hl6.formn
                    have hf6 := ho6.frozen 0
                    have hf7 := ho6.frozen 1
                    have hz6 := ho6.cell 0
                    have hz7 := ho6.cell 1
                    refine oneR 11 (fun K hK => ?_)
                    rw [if_pos (by rfl)]
                    go_simp
                    refine hK.out _ _ (fun _ => (ho6.set_ 0 _).cell 1) (fun _ => ?_)
                    clear hK
                    try simp only [Act.put, List.setIfInBounds_toArray, List.set_cons_zero, List.set_cons_succ]
                    refine tkR 12 (hS := ((ho6.set_ 0 _).cell 1)) (h := ?_)
                    try simp only [Act.put, List.setIfInBounds_toArray, List.set_cons_zero, List.set_cons_succ]
                    refine oneR 13 (fun K hK => ?_)
                    rw [if_pos (by rfl)]
                    go_simp
                    refine hK.out _ _ (fun h => absurd rfl h) (fun _ => ?_)
                    clear hK
                    try simp only [Act.put, List.setIfInBounds_toArray, List.set_cons_zero, List.set_cons_succ]
                    refine wpAnyR_done (by kernel_rfl) ?_ _
                    go_wp2_with fail
                    go_meet
                    exact ⟨_, _, Lib.hid ((ho6.set_ 0 _).set_ 1 _), Lib.hid (Blk.far (Blk.far hr6 (p := ⟨ob, 0, none⟩) HN2.out _) (p := ⟨ob, 1, none⟩) HN2.out _), Lib.hid ((hk6.setCell (p := ⟨ob, 0, none⟩) (.inr (.inr (.inl rfl))) _).setCell (p := ⟨ob, 1, none⟩) (.inr (.inr (.inl rfl))) _), Lib.hid ((hs6.setCell (p := ⟨ob, 0, none⟩) HN3.out _).setCell (p := ⟨ob, 1, none⟩) HN3.out _), Lib.hid ((hl6.setCell (p := ⟨ob, 0, none⟩) HN4.out _).setCell (p := ⟨ob, 1, none⟩) HN4.out _)⟩
                . skip
                  rw [if_pos (by rfl)]
                  go_simp
                  have HB25 := Lib.hid (OB.put2 HB0.out)
                  refine hK.out _ _ (fun _ => HB25.out.z1) (fun _ => ?_)
                  clear hK
                  generalize w6.heap.size = g25 at HB25 ⊢
                  generalize w6.alloc _ = wx25 at HB25 ⊢
                  try simp only [Act.put, List.setIfInBounds_toArray, List.set_cons_zero, List.set_cons_succ]
                  refine wpAnyR_ready (rs := [1, 3]) (by kernel_rfl) (by simp) ?_
                  refine rdyR (fun K hK => ?_) (rdyR (fun K hK => ?_) AllReadyR.nil)
                  . skip
                    rw [if_pos (by rfl)]
                    have cc := HB25.out.z0
                    go_simp
                    clear cc
                    refine hK.out _ _ (fun _ => HB25.out.z1) (fun _ => ?_)
                    clear hK
                    try simp only [Act.put, List.setIfInBounds_toArray, List.set_cons_zero, List.set_cons_succ]
                    refine oneR 3 (fun K hK => ?_)
                    rw [if_pos (by rfl)]
                    go_simp
                    have HB27 := Lib.hid (OB.put1 HB25.out)
                    refine hK.out _ _ (fun _ => HB27.out.z1) (fun _ => ?_)
                    clear hK
                    generalize wx25.heap.size = g27 at HB27 ⊢
                    generalize wx25.alloc _ = wx27 at HB27 ⊢
                    try simp only [Act.put, List.setIfInBounds_toArray, List.set_cons_zero, List.set_cons_succ]
                    refine oneR 4 (fun K hK => ?_)
                    rw [if_pos (by rfl)]
                    refine step_key _ _ rfl HB27.out HW2.out rfl rfl hkl6 ?_
                    intro v128 wx28 hb
                    have HB28 := Lib.hid hb
                    clear hb
                    refine hK.out _ _ (fun _ => HB28.out.z1) (fun _ => ?_)
                    clear hK
                    try simp only [Act.put, List.setIfInBounds_toArray, List.set_cons_zero, List.set_cons_succ]
                    refine tkR 10 (hS := HB28.out.z1) (h := ?_)
                    try simp only [Act.put, List.setIfInBounds_toArray, List.set_cons_zero, List.set_cons_succ]
                    refine oneR 9 (fun K hK => ?_)
                    rw [if_pos (by rfl)]
                    refine step_item _ _ rfl HB28.out HW2.out rfl rfl hfl6 ?_
                    intro v229 wx29 hr6 hk6 ho6 hs6 hl6
                    refine hK.out _ _ (fun _ => ho6.cell 1) (fun _ => ?_)
                    clear hK
                    try simp only [Act.put, List.setIfInBounds_toArray, List.set_cons_zero, List.set_cons_succ]
                    obtain ⟨⟨A1, m1, n1, rfl⟩, ⟨A2, m2, n2, rfl⟩⟩ := hl6.formn
                    have hf6 := ho6.frozen 0
                    have hf7 := ho6.frozen 1
                    have hz6 := ho6.cell 0
                    have hz7 := ho6.cell 1
                    refine oneR 11 (fun K hK => ?_)
                    rw [if_pos (by rfl)]
                    go_simp
                    refine hK.out _ _ (fun _ => (ho6.set_ 0 _).cell 1) (fun _ => ?_)
                    clear hK
                    try simp only [Act.put, List.setIfInBounds_toArray, List.set_cons_zero, List.set_cons_succ]
                    refine tkR 12 (hS := ((ho6.set_ 0 _).cell 1)) (h := ?_)
                    try simp only [Act.put, List.setIfInBounds_toArray, List.set_cons_zero, List.set_cons_succ]
                    refine oneR 13 (fun K hK => ?_)
                    rw [if_pos (by rfl)]
                    go_simp
                    refine hK.out _ _ (fun h => absurd rfl h) (fun _ => ?_)
                    clear hK
                    try simp only [Act.put, List.setIfInBounds_toArray, List.set_cons_zero, List.set_cons_succ]
                    refine wpAnyR_done (by kernel_rfl) ?_ _
                    go_wp2_with fail
                    go_meet
                    exact ⟨_, _, Lib.hid ((ho6.set_ 0 _).set_ 1 _), Lib.hid (Blk.far (Blk.far hr6 (p := ⟨ob, 0, none⟩) HN2.out _) (p := ⟨ob, 1, none⟩) HN2.out _), Lib.hid ((hk6.setCell (p := ⟨ob, 0, none⟩) (.inr (.inr (.inl rfl))) _).setCell (p := ⟨ob, 1, none⟩) (.inr (.inr (.inl rfl))) _), Lib.hid ((hs6.setCell (p := ⟨ob, 0, none⟩) HN3.out _).setCell (p := ⟨ob, 1, none⟩) HN3.out _), Lib.hid ((hl6.setCell (p := ⟨ob, 0, none⟩) HN4.out _).setCell (p := ⟨ob, 1, none⟩) HN4.out _)⟩
                  . skip
                    rw [if_pos (by rfl)]
                    go_simp
                    have HB30 := Lib.hid (OB.put1 HB25.out)
                    refine hK.out _ _ (fun _ => HB30.out.z1) (fun _ => ?_)
                    clear hK
                    generalize wx25.heap.size = g30 at HB30 ⊢
                    generalize wx25.alloc _ = wx30 at HB30 ⊢
                    try simp only [Act.put, List.setIfInBounds_toArray, List.set_cons_zero, List.set_cons_succ]
                    refine oneR 1 (fun K hK => ?_)
                    rw [if_pos (by rfl)]
                    have cc := HB30.out.z0
                    go_simp
                    clear cc
                    refine hK.out _ _ (fun _ => HB30.out.z1) (fun _ => ?_)
                    clear hK
                    try simp only [Act.put, List.setIfInBounds_toArray, List.set_cons_zero, List.set_cons_succ]
                    refine oneR 4 (fun K hK => ?_)
                    rw [if_pos (by rfl)]
                    refine step_key _ _ rfl HB30.out HW2.out rfl rfl hkl6 ?_
                    intro v132 wx32 hb
                    have HB32 := Lib.hid hb
                    clear hb
                    refine hK.out _ _ (fun _ => HB32.out.z1) (fun _ => ?_)
                    clear hK
                    try simp only [Act.put, List.setIfInBounds_toArray, List.set_cons_zero, List.set_cons_succ]
                    refine tkR 10 (hS := HB32.out.z1) (h := ?_)
                    try simp only [Act.put, List.setIfInBounds_toArray, List.set_cons_zero, List.set_cons_succ]
                    refine oneR 9 (fun K hK => ?_)
                    rw [if_pos (by rfl)]
                    refine step_item _ _ rfl HB32.out HW2.out rfl rfl hfl6 ?_
                    intro v233 wx33 hr6 hk6 ho6 hs6 hl6
                    refine hK.out _ _ (fun _ => ho6.cell 1) (fun _ => ?_)
                    clear hK
                    try simp only [Act.put, List.setIfInBounds_toArray, List.set_cons_zero, List.set_cons_succ]
                    obtain ⟨⟨A1, m1, n1, rfl⟩, ⟨A2, m2, n2, rfl⟩⟩ := hl6.formn
                    have hf6 := ho6.frozen 0
                    have hf7 := ho6.frozen 1
                    have hz6 := ho6.cell 0
                    have hz7 := ho6.cell 1
                    refine oneR 11 (fun K hK => ?_)
                    rw [if_pos (by rfl)]
                    go_simp
                    refine hK.out _ _ (fun _ => (ho6.set_ 0 _).cell 1) (fun _ => ?_)
                    clear hK
                    try simp only [Act.put, List.setIfInBounds_toArray, List.set_cons_zero, List.set_cons_succ]
                    refine tkR 12 (hS := ((ho6.set_ 0 _).cell 1)) (h := ?_)
                    try simp only [Act.put, List.setIfInBounds_toArray, List.set_cons_zero, List.set_cons_succ]
                    refine oneR 13 (fun K hK => ?_)
                    rw [if_pos (by rfl)]
                    go_simp
                    refine hK.out _ _ (fun h => absurd rfl h) (fun _ => ?_)
                    clear hK
                    try simp only [Act.put, List.setIfInBounds_toArray, List.set_cons_zero, List.set_cons_succ]
                    refine wpAnyR_done (by kernel_rfl) ?_ _
                    go_wp2_with fail
                    go_meet
                    exact ⟨_, _, Lib.hid ((ho6.set_ 0 _).set_ 1 _), Lib.hid (Blk.far (Blk.far hr6 (p := ⟨ob, 0, none⟩) HN2.out _) (p := ⟨ob, 1, none⟩) HN2.out _), Lib.hid ((hk6.setCell (p := ⟨ob, 0, none⟩) (.inr (.inr (.inl rfl))) _).setCell (p := ⟨ob, 1, none⟩) (.inr (.inr (.inl rfl))) _), Lib.hid ((hs6.setCell (p := ⟨ob, 0, none⟩) HN3.out _).setCell (p := ⟨ob, 1, none⟩) HN3.out _), Lib.hid ((hl6.setCell (p := ⟨ob, 0, none⟩) HN4.out _).setCell (p := ⟨ob, 1, none⟩) HN4.out _)⟩
               case rest =>
                obtain ⟨z1, z2, HOa, HRa, HKa, HSa, HLa⟩ := hcut
                clear HR9 HK9 HL9 HO9 HS9 HU9
                have hwa := HKa.out.size
                have hXa : ∀ b, w2.heap.size ≤ b -> b < wc.heap.size -> ¬ b = rb := fun b h1 _ e => by have := HW2.out; omega
                cases hb4 : bl (s.drop q4) with
                | nil =>
                  have HP : Hid (O = .err 2 []) := Lib.hid (by rw [HI4.out]; unfold nx; rw [hb4]; rfl)
                  have HX := Lib.hid (next_short s hs q4 rb hq4 [44, 125] hb4 wc HRa.out)
                  unfold faultV at HX
                  clear hb4 HI4
                  go_wp2_with fail
                  refine HX.out.mono ?_
                  rintro x wd ⟨q5, rfl, hq45, hq5, hrd, hkd⟩
                  have HRd := Lib.hid hrd
                  have HKd := Lib.hid (HFK.out _ (HKa.out.trans (hkd.mono hwa (fun _ _ h => .inl h))))
                  have HOd := Lib.hid (hkd.blk HOa.out HOa.out.lt (fun e => HN2.out e.symm))
                  clear hrd hkd HX
                  have o0 := HOd.out.cell 0
                  have o1 := HOd.out.cell 1
                  simp only [List.getElem?_toArray, List.getElem?_cons_zero, List.getElem?_cons_succ] at o0 o1
                  go_wp2
                  go_ret2
                  rw [HP.out]
                  exact ⟨_, q5, s.length, rfl, by simp, hq5, HRd.out, HKd.out⟩
                | cons c4 r4 =>
                  obtain ⟨a4, ha4⟩ : ∃ a4 : Nat, a4 + r4.length + 1 = s.length := by
                    have := bl_len (s.drop q4)
                    rw [hb4, List.length_drop, List.length_cons] at this
                    exact ⟨s.length - r4.length - 1, by omega⟩
                  by_cases h44 : c4 = 44
                  . subst h44
                    have HP : Hid (O = (mems (ks ++ [t]) d r4).consG (ks ++ [t]) (f.app (.cons h k .nil))) := Lib.hid (by rw [HI4.out]; unfold nx; rw [hb4]; simp only [if_true]; rw [Out.consG_snoc])
                    have HX := Lib.hid (next_ok s hs q4 rb hq4 [44, 125] 44 r4 hb4 (by decide) wc HRa.out)
                    clear hb4 HI4
                    go_wp2_with fail
                    refine HX.out.mono ?_
                    rintro x wd ⟨q5, rfl, hq45, hq5, hd5, _, hrd, hkd⟩
                    have HRd := Lib.hid hrd
                    have HKd := Lib.hid (HKa.out.trans (hkd.mono hwa (fun _ _ h => .inl h)))
                    have HOd := Lib.hid (hkd.blk HOa.out HOa.out.lt (fun e => HN2.out e.symm))
                    have HSd := Lib.hid (HSa.out.block (hkd.block bm HSa.out.lt (fun e => HN5.out e.symm)))
                    have HLd := Lib.hid (HLa.out.kp hkd (Nat.le_refl _) hXa)
                    have HDd := Lib.hid hd5
                    rw [show ((UInt8.toNat 44 : Nat) : Int) = 44 from rfl]
                    clear hrd hkd HX hd5
                    go_wp2_with fail
                    go_roundg (gk - 1)
                    case measure => omega
                    case rel => exact ⟨q5, N + 1, ks ++ [t], f.app (.cons h k .nil), z1, z2, by omega, hq5, by omega, by rw [F.len_app]; simp [F.len]; omega, by simp; omega, by omega, Lib.hid (by rw [HP.out, HDd.out]), HRd, HKd, HOd, HSd, HLd⟩
                  . by_cases h125 : c4 = 125
                    . subst h125
                      have HP : Hid (O = .ok ⟨6, 0, [], ks ++ [t]⟩ (f.app (.cons h k .nil)) r4) := Lib.hid (by rw [HI4.out]; unfold nx; rw [hb4]; simp [Out.consG])
                      have HX := Lib.hid (next_ok s hs q4 rb hq4 [44, 125] 125 r4 hb4 (by decide) wc HRa.out)
                      clear hb4 HI4 h44
                      go_wp2_with fail
                      refine HX.out.mono ?_
                      rintro x wd ⟨q5, rfl, hq45, hq5, hd5, _, hrd, hkd⟩
                      have HRd := Lib.hid hrd
                      have HKd := Lib.hid (HFK.out _ (HKa.out.trans (hkd.mono hwa (fun _ _ h => .inl h))))
                      have HOd := Lib.hid (hkd.blk HOa.out HOa.out.lt (fun e => HN2.out e.symm))
                      have HLd := Lib.hid (HLa.out.kp hkd (Nat.le_refl _) hXa)
                      have HDd := Lib.hid hd5
                      rw [show ((UInt8.toNat 125 : Nat) : Int) = 125 from rfl]
                      have o0 := HOd.out.cell 0
                      have o1 := HOd.out.cell 1
                      simp only [List.getElem?_toArray, List.getElem?_cons_zero, List.getElem?_cons_succ] at o0 o1
                      clear hrd hkd HX hd5
                      go_wp2
                      go_ret2
                      rw [HP.out]
                      obtain ⟨S5, hT5, hS5⟩ := HLd.out.node (by simp) (by simp; omega) (by rw [F.len_app]; simp [F.len]; omega)
                      exact ⟨_, q5, S5, rfl, hT5, fun b hb => ⟨by have := (hS5 b hb).1; have := HN4.out; omega, (hS5 b hb).2⟩, hq5, HDd.out.symm, HRd.out, HKd.out⟩
                    . have HP : Hid (O = .err 4 (c4 :: r4)) := Lib.hid (by rw [HI4.out]; unfold nx; rw [hb4]; simp only; rw [if_neg h44, if_neg h125]; rfl)
                      have HX := Lib.hid (next_bad s hs q4 rb hq4 [44, 125] c4 r4 hb4 (idx_neg (by simp [h44, h125])) a4 ha4 wc HRa.out)
                      unfold faultV at HX
                      clear hb4 HI4 h44 h125
                      go_wp2_with fail
                      refine HX.out.mono ?_
                      rintro x wd ⟨q5, rfl, hq45, hq5, hrd, hkd⟩
                      have HRd := Lib.hid hrd
                      have HKd := Lib.hid (HFK.out _ (HKa.out.trans (hkd.mono hwa (fun _ _ h => .inl h))))
                      have HOd := Lib.hid (hkd.blk HOa.out HOa.out.lt (fun e => HN2.out e.symm))
                      clear hrd hkd HX
                      have o0 := HOd.out.cell 0
                      have o1 := HOd.out.cell 1
                      simp only [List.getElem?_toArray, List.getElem?_cons_zero, List.getElem?_cons_succ] at o0 o1
                      go_wp2
                      go_ret2
                      rw [HP.out]
                      exact ⟨_, q5, a4, rfl, by simp; omega, hq5, HRd.out, HKd.out⟩
            . have HP : Hid (O = .err 4 (c2 :: r2)) := Lib.hid (by rw [HI2.out]; unfold colon; rw [hb2]; simp only; rw [if_neg h58]; rfl)
              have HX := Lib.hid (next_bad s hs q2 rb hq2 [58] c2 r2 hb2 (idx_neg (by simp [h58])) a2 ha2 w7 HR7.out)
              unfold faultV at HX
              clear hb2 h58 HI2
              go_wp2_with fail
              refine HX.out.mono ?_
              rintro x w8 ⟨q3, rfl, hq23, hq3, hr8, hk8⟩
              have HR8 := Lib.hid hr8
              have HK8 := Lib.hid (HFK.out _ (HK7.out.trans (hk8.mono hw7 (fun _ _ h => .inl h))))
              clear hr8 hk8 HX
              go_wp2
              go_ret2
              rw [HP.out]
              exact ⟨_, q3, a2, rfl, by simp; omega, hq3, HR8.out, HK8.out⟩
      . have HP : Hid (O = .err 4 (c :: r)) := Lib.hid (by rw [HO.out, HI.out]; unfold key; rw [hb]; simp only; rw [if_neg h34]; rfl)
        have HX := Lib.hid (next_bad s hs q0 rb hq0 [34] c r hb (idx_neg (by simp [h34])) a ha wr HR.out)
        unfold faultV at HX
        clear hb h34 HI HO
        go_wp2_with fail
        refine HX.out.mono ?_
        rintro x w4 ⟨q3, rfl, hq23, hq3, hr4, hk4⟩
        have HR4 := Lib.hid hr4
        have HK4 := Lib.hid (HFK.out _ (HK.out.trans (hk4.mono HK.out.size (fun _ _ h => .inl h))))
        clear hr4 hk4 HX
        go_wp2
        go_ret2
        rw [HP.out]
        exact ⟨_, q3, a, rfl, by simp; omega, hq3, HR4.out, HK4.out⟩
-- >
end Js
end Go.Proofs.YtjohdaobhonioaaGreatDoor
