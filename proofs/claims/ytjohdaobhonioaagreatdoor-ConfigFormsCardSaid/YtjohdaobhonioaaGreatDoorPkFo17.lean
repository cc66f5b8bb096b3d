/-
  Parts of the proof: JsD.
-/
import Derived.Test.YtjohdaobhonioaaGreatDoorPkFo10
import Derived.Test.YtjohdaobhonioaaGreatDoorPkFo8
namespace Go.Proofs.YtjohdaobhonioaaGreatDoor
open Go.RowKit
namespace Js
theorem wrongs_own {d : Nat} {h : Hd} {k : F} (e : own d h k.len ≠ 0) : wrongs d h k = own d h k.len := by unfold wrongs; simp only; rw [if_pos e]
theorem wrongs_low {d : Nat} {h : Hd} {k : F} (e : own d h k.len = 0) (hk : ¬ 5 ≤ h.kind) : wrongs d h k = 0 := by unfold wrongs; simp only; rw [if_neg (by omega), if_neg hk]
theorem wrongs_high {d : Nat} {h : Hd} {k : F} (e : own d h k.len = 0) (hk : 5 ≤ h.kind) : wrongs d h k = wrongsF (d + 1) k := by unfold wrongs; simp only; rw [if_neg (by omega), if_pos hk]
theorem own_deep {d : Nat} {h : Hd} {n : Nat} (hd : 32 < d) : own d h n = 5 := by unfold own; rw [if_pos hd]
theorem own_kind {d : Nat} {h : Hd} {n : Nat} (hd : ¬ 32 < d) (hk : h.kind < 0 ∨ 6 < h.kind ∨ (h.kind = 6 /\ h.keys.length ≠ n)) : own d h n = 14 := by unfold own; rw [if_neg hd, if_pos hk]
theorem own_text {d : Nat} {h : Hd} {n : Nat} (hd : ¬ 32 < d) (hk : h.kind = 4) (hw : wrong h.text ≠ none) : own d h n = 6 := by unfold own; rw [if_neg hd, if_neg (by omega), if_pos ⟨hk, hw⟩]
theorem own_fine {d : Nat} {h : Hd} {n : Nat} (hd : ¬ 32 < d) (h0 : 0 ≤ h.kind) (h6 : h.kind < 6) (hw : h.kind = 4 -> wrong h.text = none) : own d h n = 0 := by
 unfold own; rw [if_neg hd, if_neg (by omega), if_neg (fun e => e.2 (hw e.1)), if_pos (by omega)]
theorem own_obj {d : Nat} {h : Hd} {n : Nat} (hd : ¬ 32 < d) (hk : h.kind = 6) (hl : h.keys.length = n) : own d h n = if ∃ x ∈ h.keys, wrong x ≠ none then 6 else if dupL h.keys = true then 11 else 0 := by
 unfold own; rw [if_neg hd, if_neg (by omega), if_neg (by omega), if_neg (by omega)]
theorem dupL_snoc (l : List (List UInt8)) (x : List UInt8) : dupL (l ++ [x]) = (dupL l || decide (x ∈ l)) := by
 induction l with
 | nil => simp [dupL]
 | cons y r ih =>
  rw [List.cons_append, dupL, dupL, ih]
  by_cases h1 : y ∈ r <;> by_cases h2 : x = y <;> by_cases h3 : x ∈ r <;> simp_all
  exact fun e => absurd e.symm h2
theorem tv_atom {E : Enc} {w : World} {S : Nat -> Prop} {h : Hd} {u : Value} (hk : h.keys = []) (e : E.V h (.slice none 0 0) (.slice none 0 0) = [u]) : TV E w S h .nil [u] :=
 ⟨none, 0, none, 0, [], by rw [hk]; exact e.symm, by simp [F.len], ⟨by simp [hk], fun _ _ => ⟨rfl, rfl⟩⟩, RdS.none_, rfl, by rw [hk]; exact RdS.none_⟩
theorem TL.node2 {w : World} {B : Nat} {S0 : Nat -> Prop} {v : Value} {f : F} (h : TL (encN false) w B S0 129 v f) :
   ∃ (S : Nat -> Prop) (A : Option Addr) (c : Nat) (us : List Value), v = .slice A f.len c /\ RdS w S 1 A f.len us /\ TR (encN false) w S f us /\ ∀ b, S b -> S0 b ∨ (B ≤ b /\ b < w.heap.size) := by
 obtain ⟨S, vs, ho, hp, hS⟩ := h
 obtain ⟨A, c, rfl, hr⟩ := RdS.of_own ho
 refine ⟨fun b => S b ∨ (Value.slice A f.len c).ownBlock = some b, A, c, vs, rfl, hr.more fun b hb => .inr hb, hp.more fun b hb => .inl hb, fun b hb => ?_⟩
 rcases hb with hb | hb
 . rcases hS b hb with ⟨h1, h2, _⟩ | ⟨h1, _⟩
   . exact .inr ⟨h1, h2⟩
   . exact .inl h1
 . exact .inr (own_lt ho hb)
-- <
set_option maxHeartbeats 16000000 in
set_option maxRecDepth 100000 in
theorem of_step (n : Nat) (hA : AllC n) : OfC n := by
 intro d h k iv kv S w hk hd hfit hfk htv hS hst
 obtain ⟨A1, c1, A2, c2, us, ecs, hlk, ⟨hlq, _⟩, hr1, htr, hr2⟩ := htv
 have eiv : iv = .slice A1 k.len c1 /\ kv = .slice A2 h.keys.length c2 := by
   simp only [encJ, jcells, List.cons.injEq, and_true, true_and] at ecs
   exact ecs
 obtain ⟨rfl, rfl⟩ := eiv
 obtain ⟨kd, num, text, keys⟩ := h
 simp only at hlq hr2 ⊢
 have HA := Lib.hid hA
 have HST := Lib.hid hst
 have HS := Lib.hid hS
 have HFK := Lib.hid hfk
 have HR1 := Lib.hid hr1
 have HTR := Lib.hid htr
 have HR2 := Lib.hid hr2
 have HFIT : Hid (text.length ≤ 4398046511104 /\ ∀ x ∈ keys, x.length ≤ 4398046511104) := Lib.hid hfit
 have HK := Lib.hid hk
 obtain ⟨nk, hnk⟩ : ∃ nk, nk = keys.length := ⟨_, rfl⟩
 obtain ⟨ni, hni⟩ : ∃ ni, ni = k.len := ⟨_, rfl⟩
 have HNK := Lib.hid hnk
 have HNI := Lib.hid hni
 rw [<- hnk] at HR2 hlq ⊢
 rw [<- hni] at HR1 hlk ⊢
 clear hA hst hS hfk hr1 htr hr2 hfit hk ecs hnk hni
 obtain ⟨wz, hwz⟩ : ∃ wz, wz = w.alloc (.cells #[.int .i64 kd, .int .i64 num, .string ⟨text.toArray⟩, .slice A1 ni c1, .slice A2 nk c2] 54) := ⟨_, rfl⟩
 have HB : Hid (Blk wz w.heap.size 54 #[.int .i64 kd, .int .i64 num, .string ⟨text.toArray⟩, .slice A1 ni c1, .slice A2 nk c2]) := Lib.hid (by rw [hwz]; exact Blk.new _ _ _)
 have HSW : Hid (wz.heap.size = w.heap.size + 1) := Lib.hid (by rw [hwz]; simp)
 have HZ : Hid (Below w.heap.size w wz) := Lib.hid (by rw [hwz]; exact (Below.refl _ _).alloc (Nat.le_refl _) _)
 have hb1 : Below w.heap.size w (w.alloc (.cells #[.int .i64 kd, .int .i64 num, .string ⟨text.toArray⟩, .slice A1 ni c1, .slice A2 nk c2] 54)) := (Below.refl _ _).alloc (Nat.le_refl _) _
 by_cases hd2 : 32 < d
 . go_enter Tryz.func139, Tryz.ntmps139
   go_wp2
   go_ret2
   have e := own_deep (h := ⟨kd, num, text, keys⟩) (n := k.len) hd2
   have e2 := wrongs_own (k := k) (by rw [e]; decide)
   rw [e] at e2
   exact .inr ⟨by rw [e2]; decide, _, by rw [e2]; rfl, hb1⟩
 by_cases k012 : kd = 0 ∨ kd = 1 ∨ kd = 2
 . have e := own_fine (h := ⟨kd, num, text, keys⟩) (n := k.len) hd2 (by simp only; omega) (by simp only; omega) (by simp only; omega)
   have e2 := wrongs_low e (by simp only; omega)
   have e3 : trimH ⟨kd, num, text, keys⟩ = plainH kd /\ trimK ⟨kd, num, text, keys⟩ k = .nil := by
     unfold trimH trimK
     simp only
     exact ⟨by rw [if_neg (by omega), if_neg (by omega), if_neg (by omega)], by rw [if_neg (by omega)]⟩
   rcases k012 with rfl | rfl | rfl
   all_goals
     go_enter Tryz.func139, Tryz.ntmps139
     go_wp2
     go_ret2
     refine .inl ⟨e2, _, fun _ => False, rfl, ?_, fun b hb => hb.elim, hb1⟩
     rw [e3.1, e3.2]
     exact tv_atom rfl rfl
 by_cases k3 : kd = 3
 . subst k3
   have e := own_fine (h := ⟨3, num, text, keys⟩) (n := k.len) hd2 (show (0 : Int) ≤ 3 by decide) (show (3 : Int) < 6 by decide) (fun h => absurd h (show ¬ (3 : Int) = 4 by decide))
   go_enter Tryz.func139, Tryz.ntmps139
   go_wp2
   go_ret2
   exact .inl ⟨wrongs_low e (show ¬ (5 : Int) ≤ 3 by decide), _, fun _ => False, rfl, tv_atom (h := ⟨3, num, [], []⟩) rfl rfl, fun b hb => hb.elim, hb1⟩
 by_cases k4 : kd = 4
 . subst k4
   clear hb1
   have HC := Lib.hid (valid_any text HFIT.out.1 wz (HST.out.below HZ.out))
   by_cases hv : wrong text = none
   . rw [decide_eq_true hv] at HC
     have e := own_fine (h := ⟨4, num, text, keys⟩) (n := k.len) hd2 (show (0 : Int) ≤ 4 by decide) (show (4 : Int) < 6 by decide) (fun _ => hv)
     go_enter Tryz.func139, Tryz.ntmps139
     go_wp2_with fail
     rw [<- hwz]
     clear hwz
     refine HC.out.mono ?_
     rintro x w1 ⟨rfl, hb⟩
     have c2 := (HB.out.below hb HB.out.lt).cell 2
     have hz1 := HZ.out.trans (hb.mono HZ.out.size)
     clear hb
     go_wp2
     go_ret2
     exact .inl ⟨wrongs_low e (show ¬ (5 : Int) ≤ 4 by decide), _, fun _ => False, rfl, tv_atom (h := ⟨4, 0, text, []⟩) rfl rfl, fun b hb => hb.elim, hz1⟩
   . rw [decide_eq_false hv] at HC
     have e := own_text (h := ⟨4, num, text, keys⟩) (n := k.len) hd2 rfl hv
     have e2 := wrongs_own (k := k) (by rw [e]; decide)
     rw [e] at e2
     go_enter Tryz.func139, Tryz.ntmps139
     go_wp2_with fail
     rw [<- hwz]
     clear hwz
     refine HC.out.mono ?_
     rintro x w1 ⟨rfl, hb⟩
     have hz1 := HZ.out.trans (hb.mono HZ.out.size)
     clear hb
     go_wp2
     go_ret2
     exact .inr ⟨by rw [e2]; decide, _, by rw [e2]; rfl, hz1⟩
 have HC : Hid (∀ wx, Below w.heap.size w wx -> Calls Tryz.prog 208 #[.slice A1 ni c1, .int .i64 d] wx (AllPost d k S wx)) :=
   Lib.hid fun wx hb => by
     obtain ⟨rfl⟩ := HNI.out
     have hs := HS.out
     exact HA.out d k A1 c1 us S wx HK.out hlk (by omega) HFK.out (HR1.out.kept fun p hp => hb.cell (hs _ hp)) (HTR.out.kept fun p hp => hb.cell (hs _ hp)) (fun b h => by have := hs b h; have := hb.size; omega) (HST.out.below hb)
 by_cases k5 : kd = 5
 . subst k5
   have e := own_fine (h := ⟨5, num, text, keys⟩) (n := k.len) hd2 (show (0 : Int) ≤ 5 by decide) (show (5 : Int) < 6 by decide) (fun h => absurd h (show ¬ (5 : Int) = 4 by decide))
   have e2 := wrongs_high e (show (5 : Int) ≤ 5 by decide)
   clear hb1
   go_enter Tryz.func139, Tryz.ntmps139
   go_wp2_with fail
   rw [<- hwz]
   clear hwz
   refine (HC.out wz HZ.out).mono ?_
   rintro x w1 (⟨hw0, v, rfl, htl, hb⟩ | ⟨hw0, rfl, hb⟩)
   . obtain ⟨S', A3, c3, us3, rfl, hr3, htr3, hS3⟩ := htl.node2
     go_wp2
     go_ret2
     refine .inl ⟨e2.trans hw0, _, S', rfl, ⟨A3, c3, none, 0, us3, rfl, ?_, ⟨by simp [trimH, plainH], fun h => by cases h⟩, hr3, htr3, RdS.none_⟩, fun b hb => ?_, HZ.out.trans (hb.mono HZ.out.size)⟩
     . show (trim k).len ≤ _
       rw [trim_len, <- HNI.out]; exact hlk
     . rcases hS3 b hb with h | ⟨h1, h2⟩
       . exact .inl h
       . exact .inr ⟨by have := HZ.out.size; omega, h2⟩
   . unfold errnoV
     go_wp2
     go_ret2
     exact .inr ⟨by rw [e2]; exact hw0, _, by rw [e2]; rfl, HZ.out.trans (hb.mono HZ.out.size)⟩
 by_cases k6 : kd = 6
 . subst k6
   clear hb1
   by_cases hl : nk = ni
   . subst hl
     have HLK : Hid (keys.length = k.len) := Lib.hid (HNK.out.symm.trans HNI.out)
     have hmm := @run_makeMap Tryz.prog
     go_enter Tryz.func139, Tryz.ntmps139
     go_wp2_with fail
     rw [<- hwz]
     clear hwz
     go_loopw [9, 67] (fun b i wr => ∃ c : Nat, c ≤ nk /\ b = .bool (dupL (keys.take c)) /\ i = .int .i64 c /\ Hid (∀ x ∈ keys.take c, wrong x = none) /\ Hid (Seen 9 wr (w.heap.size + 1) c (keys.take c)) /\ Hid (Below wz.heap.size wz wr)) (fun _ i _ => nk - (intOf i).toNat)
     case atStart => exact ⟨0, by omega, rfl, rfl, Lib.hid (by simp), Lib.hid (by rw [<- HSW.out]; exact Seen.made _ _), Lib.hid ((Below.refl _ _).alloc (Nat.le_refl _) _)⟩
     case round =>
       obtain ⟨c, hc, rfl, rfl, HW, HSN, HBW⟩ := hrel
       by_cases hlt : c < nk
       . have HBB : Hid (Below w.heap.size w wr) := Lib.hid (HZ.out.trans (HBW.out.mono HZ.out.size))
         obtain ⟨ad, u, rfl, hab, hu, hcell⟩ := ((HR2.out.reads HS.out).below HBB.out).at_ hlt
         have hlt2 : c < keys.length := by have := HNK.out; omega
         have hxu := tx_get hu hlt2
         subst hxu
         have HX : Hid (keys.take (c + 1) = keys.take c ++ [keys.getD c []]) := Lib.hid (by rw [List.take_succ_eq_append_getElem hlt2]; simp [List.getD, List.getElem?_eq_getElem hlt2])
         have HXM : Hid (keys.getD c [] ∈ keys) := Lib.hid (by simp [List.getD, List.getElem?_eq_getElem hlt2])
         have HXL : Hid ((keys.getD c []).length ≤ 4398046511104) := Lib.hid (HFIT.out.2 _ HXM.out)
         generalize keys.getD c [] = x at hcell hu HX HXM HXL
         have HC := Lib.hid (valid_any x HXL.out wr (HST.out.below HBB.out))
         clear hu
         by_cases hv : wrong x = none
         . rw [decide_eq_true hv] at HC
           have HV := Lib.hid hv
           clear hv
           go_wp2_with fail
           refine HC.out.mono ?_
           rintro y w1 ⟨rfl, hb⟩
           have HS1 : Hid (Seen 9 w1 (w.heap.size + 1) c (keys.take c)) := Lib.hid (HSN.out.block (hb.block _ HSN.out.lt))
           have HB1 : Hid (Below wz.heap.size wz w1) := Lib.hid (HBW.out.trans (hb.mono HBW.out.size))
           have hlk := HS1.out.look Tryz.underlying9 Tryz.underlying192 x (by have := HXL.out; omega)
           clear hb HSN HBW HBB HC
           have HD : Hid (dupL (keys.take (c + 1)) = (dupL (keys.take c) || decide (x ∈ keys.take c))) := Lib.hid (by rw [HX.out, dupL_snoc])
           generalize hbq : decide (x ∈ keys.take c) = bq at hlk HD
           generalize dupL (keys.take c) = bt at HD ⊢
           clear hbq
           cases bt
           all_goals
             go_wp2_with (at_mapUpdate; refine wpList_seen rfl _ _ _ rfl rfl HS1.out Tryz.underlying9 Tryz.underlying192 (by omega) x rfl rfl (by have := HXL.out; omega) ?_; intro w7 hs7 hg7)
             refine ⟨⟨c + 1, by omega, by rw [HD.out]; rfl, by push_cast; rfl, Lib.hid ?_, Lib.hid (by rw [HX.out]; exact hs7), Lib.hid (Below.grown HB1.out hg7 HB1.out.size (fun g hg => by injection hg with hg; have := HSW.out; omega))⟩, ?_⟩
             . rw [HX.out]
               intro y hy
               rcases List.mem_append.1 hy with h | h
               . exact HW.out y h
               . simp at h; subst h; exact HV.out
             . show nk - ((c : Int) + 1).toNat < nk - ((c : Int)).toNat
               omega
         . rw [decide_eq_false hv] at HC
           have e := own_obj (h := ⟨6, num, text, keys⟩) (n := k.len) hd2 rfl HLK.out
           rw [if_pos ⟨x, HXM.out, hv⟩] at e
           have e2 := wrongs_own (k := k) (by rw [e]; decide)
           rw [e] at e2
           have HE2 := Lib.hid e2
           clear hv e e2
           go_wp2_with fail
           refine HC.out.mono ?_
           rintro y w1 ⟨rfl, hb⟩
           have HB1 : Hid (Below w.heap.size w w1) := Lib.hid (HBB.out.trans (hb.mono HBB.out.size))
           clear hb
           go_wp2
           go_ret2
           exact .inr ⟨by rw [HE2.out]; decide, _, by rw [HE2.out]; rfl, HB1.out⟩
       . have hcn : c = nk := by omega
         subst hcn
         have HBB : Hid (Below w.heap.size w wr) := Lib.hid (HZ.out.trans (HBW.out.mono HZ.out.size))
         have HTK : Hid (keys.take c = keys) := Lib.hid (by rw [HNK.out]; exact List.take_length)
         have HBZ := Lib.hid (HB.out.below HBW.out HB.out.lt)
         have e := own_obj (h := ⟨6, num, text, keys⟩) (n := k.len) hd2 rfl HLK.out
         rw [if_neg (by
           rintro ⟨x, hx, hwx⟩
           exact hwx (HW.out x (by rw [HTK.out]; exact hx)))] at e
         rw [HTK.out]
         by_cases hdu : dupL keys = true
         . rw [if_pos hdu] at e
           have e2 := wrongs_own (k := k) (by rw [e]; decide)
           rw [e] at e2
           have HE2 := Lib.hid e2
           rw [hdu]
           clear e e2 hdu
           go_wp2
           go_ret2
           exact .inr ⟨by rw [HE2.out]; decide, _, by rw [HE2.out]; rfl, HBB.out⟩
         . rw [if_neg hdu] at e
           have e2 := wrongs_high e (show (5 : Int) ≤ 6 by decide)
           have HE2 := Lib.hid e2
           rw [Bool.not_eq_true] at hdu
           rw [hdu]
           clear e e2 hdu
           have c3 := HBZ.out.cell 3
           have HCC := Lib.hid (HC.out wr HBB.out)
           go_wp2_with fail
           refine HCC.out.mono ?_
           rintro y w1 (⟨hw0, v, rfl, htl, hb⟩ | ⟨hw0, rfl, hb⟩)
           . obtain ⟨S', A3, c3', us3, rfl, hr3, htr3, hS3⟩ := htl.node2
             have HB2 := Lib.hid (HBZ.out.below hb HBZ.out.lt)
             have HBF : Hid (Below w.heap.size w w1) := Lib.hid (HBB.out.trans (hb.mono HBB.out.size))
             have HFIN : Hid (OfPost d ⟨6, num, text, keys⟩ k S w (.returned (.tuple #[.iface 329 (.agg #[.slice A2 c c2, .slice A3 (trim k).len c3']), .nilIface])) w1) := Lib.hid (by
               refine .inl ⟨HE2.out.trans hw0, _, (fun b => S' b ∨ S b), rfl, ⟨A3, c3', A2, c2, us3, ?_, ?_, ⟨by have := HNK.out; show keys.length ≤ _; omega, fun h => by cases h⟩, hr3.more fun b hb => .inl hb, htr3.more fun b hb => .inl hb, ?_⟩, fun b hb' => ?_, HBF.out⟩
               . show _ = [nodeV _ _ _]
                 have := HNK.out
                 subst this
                 rfl
               . show (trim k).len ≤ _
                 rw [trim_len, <- HNI.out]; exact hlk
               . have hk2 := ((HR2.out.kept (w' := w1) fun p hp => HBF.out.cell (HS.out _ hp)).more (S' := fun b => S' b ∨ S b) fun b hb => .inr hb)
                 have := HNK.out
                 subst this
                 exact hk2
               . rcases hb' with hb' | hb'
                 . rcases hS3 b hb' with h | ⟨h1, h2⟩
                   . exact .inl h
                   . exact .inr ⟨by have := HBB.out.size; omega, h2⟩
                 . exact .inl hb')
             clear htl hr3 htr3 hS3 hb HBZ c3
             have c4 := HB2.out.cell 4
             go_wp2
             go_ret2
             exact HFIN.out
           . have HB2 := Lib.hid (HBZ.out.below hb HBZ.out.lt)
             have HBF : Hid (Below w.heap.size w w1) := Lib.hid (HBB.out.trans (hb.mono HBB.out.size))
             have HW0 := Lib.hid hw0
             clear hb HBZ c3 hw0
             have c4 := HB2.out.cell 4
             unfold errnoV
             go_wp2
             go_ret2
             exact .inr ⟨by rw [HE2.out]; exact HW0.out, _, by rw [HE2.out]; rfl, HBF.out⟩
   . have e := own_kind (h := ⟨6, num, text, keys⟩) (n := k.len) hd2 (.inr (.inr ⟨rfl, by
       show ¬ keys.length = k.len
       rw [<- HNK.out, <- HNI.out]; exact hl⟩))
     have e2 := wrongs_own (k := k) (by rw [e]; decide)
     rw [e] at e2
     have HE2 := Lib.hid e2
     have hne : (((nk : Nat) : Int) = ((ni : Nat) : Int)) = False := by rw [eq_iff_iff, iff_false]; omega
     clear e e2
     go_enter Tryz.func139, Tryz.ntmps139
     go_wp2
     go_ret2
     rw [<- hwz]
     exact .inr ⟨by rw [HE2.out]; decide, _, by rw [HE2.out]; rfl, HZ.out⟩
 . have e := own_kind (h := ⟨kd, num, text, keys⟩) (n := k.len) hd2 (by simp only; omega)
   have e2 := wrongs_own (k := k) (by rw [e]; decide)
   rw [e] at e2
   have q0 : (kd = 0) = False := by rw [eq_iff_iff, iff_false]; omega
   have q1 : (kd = 1) = False := by rw [eq_iff_iff, iff_false]; omega
   have q2 : (kd = 2) = False := by rw [eq_iff_iff, iff_false]; omega
   have q3 : (kd = 3) = False := by rw [eq_iff_iff, iff_false]; omega
   have q4 : (kd = 4) = False := by rw [eq_iff_iff, iff_false]; omega
   have q5 : (kd = 5) = False := by rw [eq_iff_iff, iff_false]; omega
   have q6 : (kd = 6) = False := by rw [eq_iff_iff, iff_false]; omega
   go_enter Tryz.func139, Tryz.ntmps139
   go_wp2
   go_ret2
   exact .inr ⟨by rw [e2]; decide, _, by rw [e2]; rfl, hb1⟩
-- >
end Js
end Go.Proofs.YtjohdaobhonioaaGreatDoor
