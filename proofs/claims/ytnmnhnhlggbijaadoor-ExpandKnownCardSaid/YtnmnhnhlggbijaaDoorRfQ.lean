/-
  The walk of the reference's quoted text at this seat's translation.
-/
import Derived.Test.YtnmnhnhlggbijaaDoorRfS
namespace Go.Proofs.YtnmnhnhlggbijaaDoor
open Go.RowKit
namespace Exp
open T
def RQuoC (m : Nat) : Prop := ∀ (s : List UInt8) (a rb : Nat) (e : UInt8) (acc : List (List UInt8)) (nv : Value) (O : Out) (w : World), s.length ≤ 1099511627776 → a ≤ s.length → s.length - a ≤ m → RdrR w rb s a e 0 nv → Own9 w rb nv acc → acc.length + (s.length - a) ≤ 2199023255552 → Rd e .quoted (s.drop a) O →
  Calls Tryd.prog 37 #[.pointer (some ⟨rb, 0, none⟩)] w (RReadPost rb s e a 0 acc O w)
set_option maxHeartbeats 8000000 in
set_option maxRecDepth 100000 in
theorem rquo_step (m : Nat) (hV : RVarC m) : RQuoC m := by
  intro s a rb e acc nv O w hs ha hm hr ho hal hrd
  have hrl := Blk.lt hr
  have HI0 : Hid (RI .quoted s e a rb acc O w (.slice none 0 0) w) := Lib.hid (.inl ⟨a, .nil, 0, nv, O, ⟨hrl, RL.nil _ _, hr, Kq.refl _ _⟩, ho, ha, by omega, by simp [T.wt], hrd, by simp⟩)
  have HV := Lib.hid hV
  have HM := Lib.hid hm
  have HAL := Lib.hid hal
  clear hr ho hrd hV hm hal
  go_enter Tryd.func37, Tryd.ntmps37
  go_wp2_with fail
  go_loopw [3] (fun v wr => Hid (RI .quoted s e a rb acc O w v wr)) (fun _ wr => s.length - posOf rb wr)
  case atStart => exact HI0
  case round =>
    clear HI0
    rcases hrel.out with ⟨p, t, n, nv, o, hRS, hown, hps, hn, hwt, hrd, hO⟩ | ⟨p, t, n, no, nv, hRS, hps, hps2, hn, hno, hO⟩
    · obtain ⟨A, c0, rfl⟩ := hRS.hP.form
      have HS := Lib.hid hRS
      have HOW := Lib.hid hown
      have HRD := Lib.hid hrd
      have HO := Lib.hid hO
      have HPO := Lib.hid (posOfR_is hRS.hr)
      have HEND : Hid (∀ (q : Nat) (v' : Value) (t' : T) (n' : Nat) (nv' : Value) (o' : Out) (w' : World), RS w w' rb s e q v' t' n' 0 nv' → Own9 w' rb nv' (mets acc t'.nms) → q ≤ s.length → n' + a ≤ q → t'.wt + a ≤ q → Rd e .quoted (s.drop q) o' → O = o'.pre t' → p < q →
          Hid (RI .quoted s e a rb acc O w v' w') ∧ s.length - posOf rb w' < s.length - posOf rb wr) := Lib.hid (fun q v' t' n' nv' o' w' h1 h2 h3 h4 h5 h6 h7 h8 =>
        ⟨Lib.hid (.inl ⟨q, t', n', nv', o', h1, h2, h3, h4, h5, h6, h7⟩), by rw [HPO.out, posOfR_is h1.hr]; omega⟩)
      by_cases hlt : p < s.length
      · have HBAD : Hid (∀ (q : Nat) (v' : Value) (t' : T) (n' no : Nat) (nv' : Value) (w' : World), RS w w' rb s e q v' t' n' no nv' → s.length ≤ q → q ≤ s.length + 1 → n' + a ≤ s.length → no ≠ 0 → O = .err no →
            Hid (RI .quoted s e a rb acc O w v' w') ∧ s.length - posOf rb w' < s.length - posOf rb wr) := Lib.hid (fun q v' t' n' no nv' w' h1 h2 h3 h4 h5 h6 =>
          ⟨Lib.hid (.inr ⟨q, t', n', no, nv', h1, h2, h3, h4, h5, h6⟩), by rw [HPO.out, posOfR_is h1.hr]; omega⟩)
        clear hRS hown hrd hO hrel
        obtain ⟨k0, k1, k2, f1⟩ := HS.out.cells
        have hidx := run_index_list Tryd.underlying9 s p hlt
        obtain ⟨c, hc⟩ : ∃ c, c = s.getD p 0 := ⟨_, rfl⟩
        rw [← hc] at hidx
        have HC := Lib.hid hc
        clear hc
        obtain ⟨pp, hpp⟩ : ∃ pp, pp = p + 1 := ⟨_, rfl⟩
        have HPP := Lib.hid hpp
        have hpl : pp ≤ s.length := by omega
        have hpg : p < pp := by omega
        have hpe : pp ≤ p + 1 := by omega
        clear hpp
        have b0 : decide ((p : Int) < (s.length : Int)) = true := by rw [decide_eq_true_iff]; omega
        go_wp2_with fail
        go_quiet (fail)
        have HS1 := Lib.hid (HS.out.drewN nq)
        have HO1 : Hid (Own9 (wr.drewN nq) rb nv (mets acc t.nms)) := Lib.hid HOW.out
        clear k0 k1 k2 f1
        generalize wr.drewN nq = w1 at HS1 HO1 ⊢
        obtain ⟨k0, k1, k2, f1⟩ := HS1.out.cells
        go_wp2_with fail
        go_quiet (fail)
        have HS2 := Lib.hid (HS1.out.drewN nq)
        have HO2 : Hid (Own9 (w1.drewN nq) rb nv (mets acc t.nms)) := Lib.hid HO1.out
        clear k0 k1 k2 f1 HS1 HO1
        generalize w1.drewN nq = w2 at HS2 HO2 ⊢
        have HNX := Lib.hid (next_any s hs p rb hlt e 0 nv w2 HS2.out.hr)
        unfold NextPost at HNX
        obtain ⟨dv, hdv⟩ : ∃ dv : Nat, dv = if p + 1 < s.length then (s.getD (p + 1) 0).toNat else 0 := ⟨_, rfl⟩
        obtain ⟨mo, hmo⟩ : ∃ mo : Bool, mo = decide (p + 1 < s.length) := ⟨_, rfl⟩
        rw [← hdv, ← hmo] at HNX
        have HDV := Lib.hid hdv
        have HMO := Lib.hid hmo
        clear hdv hmo
        go_wp2_with fail
        refine HNX.out.mono ?_
        rintro x w3 ⟨mm, rfl, hw3⟩
        have HS4 : Hid (RS w w3 rb s e p (.slice A n c0) t n 0 nv) := Lib.hid (by rw [hw3]; exact HS2.out.drewN mm)
        have HO4 : Hid (Own9 w3 rb nv (mets acc t.nms)) := Lib.hid (by rw [hw3]; exact HO2.out)
        clear hw3 HS2 HO2 HNX
        obtain ⟨k0, k1, k2, f1⟩ := HS4.out.cells
        by_cases hce : c = e
        · have q1 : ((c.toNat : Int) == (e.toNat : Int)) = true := b8t hce
          have HCE := Lib.hid hce
          clear hce
          by_cases hl2 : p + 1 < s.length
          · obtain ⟨d, hd⟩ : ∃ d, d = s.getD (p + 1) 0 := ⟨_, rfl⟩
            obtain rfl : mo = true := HMO.out.trans (decide_eq_true hl2)
            obtain rfl : dv = d.toNat := by rw [HDV.out, if_pos hl2, hd]
            have HD := Lib.hid hd
            have HZ : Hid (esc1 e .quoted d = esc1 e .quoted (s.getD (p + 1) 0)) := Lib.hid (by rw [hd])
            clear hd
            rcases quo_cases e d with ⟨hz, z1⟩ | ⟨hz, z1, z2⟩ | ⟨hz, z1, z2, z3⟩ | ⟨hz, z1, z2, z3⟩
            · have HST := Lib.hid (rstep_esc (t := t) hl2 (cls_esc hl2 (HC.out.symm.trans HCE.out) (HZ.out.symm.trans hz)) HRD.out HO.out)
              obtain ⟨p2, hp2⟩ : ∃ p2, p2 = pp + 1 := ⟨_, rfl⟩
              rw [← HD.out, show p + 2 = p2 by have := HPP.out; omega] at HST
              have HS4b := Lib.hid (HS4.out.to pp ((p : Int) + 1) (by have := HPP.out; omega))
              have HO4b := Lib.hid (own9_to HO4.out HS4.out.hr (.int .i64 ((p : Int) + 1)))
              have HDD : Hid (s.getD pp 0 = d) := Lib.hid (by rw [HPP.out]; exact HD.out.symm)
              have hp2l : p2 ≤ s.length := by omega
              have hpp2 : pp < s.length := by omega
              have HP2 := Lib.hid hp2
              have hp2g : pp < p2 := by omega
              have hp2e : p2 ≤ pp + 1 := by omega
              clear hp2
              go_wp2_with fail
              refine (bytes_one s hs pp p2 rb hpp2 HP2.out e d HDD.out 0 nv _ HS4b.out.hr).mono ?_
              rintro x w5 ⟨rfl, h1, h2⟩
              have HS5 := Lib.hid (HS4b.out.bytes h1 h2)
              have HO5 := Lib.hid (Own9.kp HO4b.out HS4b.out.hr h2)
              clear h1 h2
              go_wp2_with (at_builtin; refine wpList_pushR rfl _ _ rfl w.heap.size _ rb (.slice A n c0) t n w rfl (HS5.out.hP.alloc _) (HS5.out.hK.alloc _) (Nat.le_refl _) _ 1 1 [.string ⟨#[d]⟩, .string ⟨#[]⟩, .int .u8 0, .slice none 0 0] rfl (reads_new4 _ _ _ _ _) (fun _ => False) _ (Pcs.one_litR _ _ [d]) (fun _ h => h.elim) (by omega) (by have := HS5.out.hK.size; simp; omega) ?_; intro v6 w6 h1 h2 h3 h4; have HS6 := Lib.hid (HS5.out.pushed h1 h2 h3 h4); have HO6 := Lib.hid (own9_grown (World.ownsRow.alloc HO5.out _) h3 (fun b hb => (h4 b hb).2)); obtain ⟨A6, c6, rfl⟩ := h1.form; clear h1 h2 h3 h4)
              obtain ⟨o', h1, h2⟩ := HST.out
              have HE := Lib.hid (HEND.out p2 _ (t.app (.lit [d] .nil)) (n + 1) nv o' _ HS6.out (by rw [nms_app]; simpa [nms] using HO6.out) (by omega) (by omega) (by simp only [wt_app, T.wt, List.length_cons, List.length_nil]; omega) h1 h2 (by omega))
              clear h1 h2
              go_roundw
              case rel => exact HE.out.1
              case measure => exact HE.out.2
            · have HST := Lib.hid (rstep_esc (t := t) hl2 (cls_esc hl2 (HC.out.symm.trans HCE.out) (HZ.out.symm.trans hz)) HRD.out HO.out)
              obtain ⟨p2, hp2⟩ : ∃ p2, p2 = pp + 1 := ⟨_, rfl⟩
              rw [← HD.out, show p + 2 = p2 by have := HPP.out; omega] at HST
              have HS4b := Lib.hid (HS4.out.to pp ((p : Int) + 1) (by have := HPP.out; omega))
              have HO4b := Lib.hid (own9_to HO4.out HS4.out.hr (.int .i64 ((p : Int) + 1)))
              have HDD : Hid (s.getD pp 0 = d) := Lib.hid (by rw [HPP.out]; exact HD.out.symm)
              have hp2l : p2 ≤ s.length := by omega
              have hpp2 : pp < s.length := by omega
              have HP2 := Lib.hid hp2
              have hp2g : pp < p2 := by omega
              have hp2e : p2 ≤ pp + 1 := by omega
              clear hp2
              go_wp2_with fail
              refine (bytes_one s hs pp p2 rb hpp2 HP2.out e d HDD.out 0 nv _ HS4b.out.hr).mono ?_
              rintro x w5 ⟨rfl, h1, h2⟩
              have HS5 := Lib.hid (HS4b.out.bytes h1 h2)
              have HO5 := Lib.hid (Own9.kp HO4b.out HS4b.out.hr h2)
              clear h1 h2
              go_wp2_with (at_builtin; refine wpList_pushR rfl _ _ rfl w.heap.size _ rb (.slice A n c0) t n w rfl (HS5.out.hP.alloc _) (HS5.out.hK.alloc _) (Nat.le_refl _) _ 1 1 [.string ⟨#[d]⟩, .string ⟨#[]⟩, .int .u8 0, .slice none 0 0] rfl (reads_new4 _ _ _ _ _) (fun _ => False) _ (Pcs.one_litR _ _ [d]) (fun _ h => h.elim) (by omega) (by have := HS5.out.hK.size; simp; omega) ?_; intro v6 w6 h1 h2 h3 h4; have HS6 := Lib.hid (HS5.out.pushed h1 h2 h3 h4); have HO6 := Lib.hid (own9_grown (World.ownsRow.alloc HO5.out _) h3 (fun b hb => (h4 b hb).2)); obtain ⟨A6, c6, rfl⟩ := h1.form; clear h1 h2 h3 h4)
              obtain ⟨o', h1, h2⟩ := HST.out
              have HE := Lib.hid (HEND.out p2 _ (t.app (.lit [d] .nil)) (n + 1) nv o' _ HS6.out (by rw [nms_app]; simpa [nms] using HO6.out) (by omega) (by omega) (by simp only [wt_app, T.wt, List.length_cons, List.length_nil]; omega) h1 h2 (by omega))
              clear h1 h2
              go_roundw
              case rel => exact HE.out.1
              case measure => exact HE.out.2
            · have HST := Lib.hid (rstep_esc (t := t) hl2 (cls_esc hl2 (HC.out.symm.trans HCE.out) (HZ.out.symm.trans hz)) HRD.out HO.out)
              obtain ⟨p2, hp2⟩ : ∃ p2, p2 = pp + 1 := ⟨_, rfl⟩
              rw [← HD.out, show p + 2 = p2 by have := HPP.out; omega] at HST
              have HS4b := Lib.hid (HS4.out.to pp ((p : Int) + 1) (by have := HPP.out; omega))
              have HO4b := Lib.hid (own9_to HO4.out HS4.out.hr (.int .i64 ((p : Int) + 1)))
              have HDD : Hid (s.getD pp 0 = d) := Lib.hid (by rw [HPP.out]; exact HD.out.symm)
              have hp2l : p2 ≤ s.length := by omega
              have hpp2 : pp < s.length := by omega
              have HP2 := Lib.hid hp2
              have hp2g : pp < p2 := by omega
              have hp2e : p2 ≤ pp + 1 := by omega
              clear hp2
              go_wp2_with fail
              refine (bytes_one s hs pp p2 rb hpp2 HP2.out e d HDD.out 0 nv _ HS4b.out.hr).mono ?_
              rintro x w5 ⟨rfl, h1, h2⟩
              have HS5 := Lib.hid (HS4b.out.bytes h1 h2)
              have HO5 := Lib.hid (Own9.kp HO4b.out HS4b.out.hr h2)
              clear h1 h2
              go_wp2_with (at_builtin; refine wpList_pushR rfl _ _ rfl w.heap.size _ rb (.slice A n c0) t n w rfl (HS5.out.hP.alloc _) (HS5.out.hK.alloc _) (Nat.le_refl _) _ 1 1 [.string ⟨#[d]⟩, .string ⟨#[]⟩, .int .u8 0, .slice none 0 0] rfl (reads_new4 _ _ _ _ _) (fun _ => False) _ (Pcs.one_litR _ _ [d]) (fun _ h => h.elim) (by omega) (by have := HS5.out.hK.size; simp; omega) ?_; intro v6 w6 h1 h2 h3 h4; have HS6 := Lib.hid (HS5.out.pushed h1 h2 h3 h4); have HO6 := Lib.hid (own9_grown (World.ownsRow.alloc HO5.out _) h3 (fun b hb => (h4 b hb).2)); obtain ⟨A6, c6, rfl⟩ := h1.form; clear h1 h2 h3 h4)
              obtain ⟨o', h1, h2⟩ := HST.out
              have HE := Lib.hid (HEND.out p2 _ (t.app (.lit [d] .nil)) (n + 1) nv o' _ HS6.out (by rw [nms_app]; simpa [nms] using HO6.out) (by omega) (by omega) (by simp only [wt_app, T.wt, List.length_cons, List.length_nil]; omega) h1 h2 (by omega))
              clear h1 h2
              go_roundw
              case rel => exact HE.out.1
              case measure => exact HE.out.2
            · have HST := Lib.hid (rstep_lit (t := t) hlt (cls_noesc hlt (HC.out.symm.trans HCE.out) (fun _ => HZ.out.symm.trans hz)) HRD.out HO.out)
              rw [← HC.out, ← HPP.out] at HST
              go_wp2_with fail
              refine (bytes_one s hs p pp rb (by omega) (by omega) e c HC.out.symm 0 nv _ HS4.out.hr).mono ?_
              rintro x w5 ⟨rfl, h1, h2⟩
              have HS5 := Lib.hid (HS4.out.bytes h1 h2)
              have HO5 := Lib.hid (Own9.kp HO4.out HS4.out.hr h2)
              clear h1 h2
              go_wp2_with (at_builtin; refine wpList_pushR rfl _ _ rfl w.heap.size _ rb (.slice A n c0) t n w rfl (HS5.out.hP.alloc _) (HS5.out.hK.alloc _) (Nat.le_refl _) _ 1 1 [.string ⟨#[c]⟩, .string ⟨#[]⟩, .int .u8 0, .slice none 0 0] rfl (reads_new4 _ _ _ _ _) (fun _ => False) _ (Pcs.one_litR _ _ [c]) (fun _ h => h.elim) (by omega) (by have := HS5.out.hK.size; simp; omega) ?_; intro v6 w6 h1 h2 h3 h4; have HS6 := Lib.hid (HS5.out.pushed h1 h2 h3 h4); have HO6 := Lib.hid (own9_grown (World.ownsRow.alloc HO5.out _) h3 (fun b hb => (h4 b hb).2)); obtain ⟨A6, c6, rfl⟩ := h1.form; clear h1 h2 h3 h4)
              obtain ⟨o', h1, h2⟩ := HST.out
              have HE := Lib.hid (HEND.out pp _ (t.app (.lit [c] .nil)) (n + 1) nv o' _ HS6.out (by rw [nms_app]; simpa [nms] using HO6.out) (by omega) (by omega) (by simp only [wt_app, T.wt, List.length_cons, List.length_nil]; omega) h1 h2 (by omega))
              clear h1 h2
              go_roundw
              case rel => exact HE.out.1
              case measure => exact HE.out.2
          · obtain rfl : mo = false := HMO.out.trans (decide_eq_false hl2)
            clear HDV
            have HST := Lib.hid (rstep_lit (t := t) hlt (cls_noesc hlt (HC.out.symm.trans HCE.out) (fun h => absurd h hl2)) HRD.out HO.out)
            rw [← HC.out, ← HPP.out] at HST
            go_wp2_with fail
            refine (bytes_one s hs p pp rb (by omega) (by omega) e c HC.out.symm 0 nv _ HS4.out.hr).mono ?_
            rintro x w5 ⟨rfl, h1, h2⟩
            have HS5 := Lib.hid (HS4.out.bytes h1 h2)
            have HO5 := Lib.hid (Own9.kp HO4.out HS4.out.hr h2)
            clear h1 h2
            go_wp2_with (at_builtin; refine wpList_pushR rfl _ _ rfl w.heap.size _ rb (.slice A n c0) t n w rfl (HS5.out.hP.alloc _) (HS5.out.hK.alloc _) (Nat.le_refl _) _ 1 1 [.string ⟨#[c]⟩, .string ⟨#[]⟩, .int .u8 0, .slice none 0 0] rfl (reads_new4 _ _ _ _ _) (fun _ => False) _ (Pcs.one_litR _ _ [c]) (fun _ h => h.elim) (by omega) (by have := HS5.out.hK.size; simp; omega) ?_; intro v6 w6 h1 h2 h3 h4; have HS6 := Lib.hid (HS5.out.pushed h1 h2 h3 h4); have HO6 := Lib.hid (own9_grown (World.ownsRow.alloc HO5.out _) h3 (fun b hb => (h4 b hb).2)); obtain ⟨A6, c6, rfl⟩ := h1.form; clear h1 h2 h3 h4)
            obtain ⟨o', h1, h2⟩ := HST.out
            have HE := Lib.hid (HEND.out pp _ (t.app (.lit [c] .nil)) (n + 1) nv o' _ HS6.out (by rw [nms_app]; simpa [nms] using HO6.out) (by omega) (by omega) (by simp only [wt_app, T.wt, List.length_cons, List.length_nil]; omega) h1 h2 (by omega))
            clear h1 h2
            go_roundw
            case rel => exact HE.out.1
            case measure => exact HE.out.2
        · have q1 : ((c.toNat : Int) == (e.toNat : Int)) = false := b8f hce
          by_cases h34 : c = 34
          · have q34 : ((c.toNat : Int) == 34) = true := b8t h34
            have HOE : Hid (O = .ok t (s.drop pp)) := Lib.hid (by
              have h1 := HRD.out.at_fin ((cls_at hlt).trans (by rw [← HC.out]; exact clsC_end hce (by rw [h34]; decide) (.inl ⟨rfl, h34⟩)))
              rw [HO.out, h1, HPP.out]; simp [Out.pre])
            have HSE := Lib.hid (HS4.out.to pp ((p : Int) + 1) (by have := HPP.out; omega))
            have HOF := Lib.hid (own9_to HO4.out HS4.out.hr (.int .i64 ((p : Int) + 1)))
            clear hce h34
            go_wp2_with fail
            go_ret
            rw [HOE.out]
            exact ⟨_, n, pp, nv, rfl, HSE.out.hP, by omega, hpl, rfl, HSE.out.hr, HOF.out, HSE.out.hK⟩
          · have q34 : ((c.toNat : Int) == 34) = false := b8f h34
            by_cases h36 : c = 36
            · have q36 : ((c.toNat : Int) == 36) = true := b8t h36
              obtain ⟨Ov, hv, hov⟩ := vrd_of hlt (HC.out.symm.trans h36) (fun h => hce (h36.trans h)) HRD.out
              have HV1 := Lib.hid hv
              have HOV := Lib.hid hov
              have HC36 : Hid (s.getD p 0 = 36) := Lib.hid (HC.out.symm.trans h36)
              clear hv hov hce h36
              go_wp2_with fail
              refine (HV.out s p rb e (mets acc t.nms) nv Ov _ hs hlt (by have := HM.out; omega) HC36.out HS4.out.hr HO4.out (by have := mets_len acc t.nms; have := nms_wt t; have := HAL.out; omega) HV1.out).mono ?_
              intro y w5 hp5
              have HP5 := Lib.hid hp5
              clear hp5
              rcases HOV.out with ⟨t5, r5, o', rfl, h1, h2⟩ | ⟨no, rfl, h2⟩
              · obtain ⟨cs, S5, q, nv5, rfl, hpc5, hS5, hr5, hpq, hqs, hrd5, ho5, hk5⟩ := HP5.out
                obtain ⟨a0, a1, a2, a3, rfl⟩ := hpc5.four
                have hone := hpc5.one
                have ho0 := hone a0 (by simp)
                have ho1 := hone a1 (by simp)
                have ho2 := hone a2 (by simp)
                have ho3 := hone a3 (by simp)
                have HWT := Lib.hid (vrd_le HV1.out)
                have HS5 := Lib.hid (HS4.out.call hk5 hrd5)
                have HO5 := Lib.hid ho5
                have hx5 := hk5.size
                have hx4 := HS4.out.hK.size
                have HPC := Lib.hid (hpc5.kept (w' := w5.alloc (.cells #[a0, a1, a2, a3] 74)) (fun p hp => World.cell?_of_block (Below.heap_alloc w5 _ _ (hS5 _ hp).2.1)))
                have HSL : Hid (∀ b, S5 b → w.heap.size ≤ b ∧ b < (w5.alloc (.cells #[a0, a1, a2, a3] 74)).heap.size ∧ (Value.slice A n c0).ownBlock ≠ some b ∧ NT (w5.alloc (.cells #[a0, a1, a2, a3] 74)) b) := Lib.hid (fun b hb => by
                  obtain ⟨h3, h4, h5⟩ := hS5 b hb
                  refine ⟨by omega, by simp; omega, fun e => ?_, h5.of_eq (Below.heap_alloc w5 _ _ h4)⟩
                  have := (HS4.out.hP.lt e).2
                  omega)
                have H1 := Lib.hid h1
                have H2 : Hid (O = o'.pre (t.app t5)) := Lib.hid (by rw [HO.out, h2, Out.pre_pre])
                have HR5 := Lib.hid hr5
                clear hr5 hk5 h2 HP5 hpc5 hS5 h1 hrd5 hone ho5
                go_wp2_with (at_builtin; refine wpList_pushR rfl _ _ rfl w.heap.size _ rb (.slice A n c0) t n w rfl (HS5.out.hP.alloc _) (HS5.out.hK.alloc _) (Nat.le_refl _) _ 1 1 [a0, a1, a2, a3] rfl (reads_new4 _ _ _ _ _) S5 _ HPC.out HSL.out (by omega) (by have := HS5.out.hK.size; simp; omega) ?_; intro v6 w6 h1 h2 h3 h4; have HS6 := Lib.hid (HS5.out.pushed h1 h2 h3 h4); have HO6 := Lib.hid (own9_grown (World.ownsRow.alloc HO5.out _) h3 (fun b hb => (h4 b hb).2)); obtain ⟨A6, c6, rfl⟩ := h1.form; clear h1 h2 h3 h4)
                have HE := Lib.hid (HEND.out q _ (t.app t5) (n + 1) nv5 o' _ HS6.out (by rw [nms_app, mets_append]; exact HO6.out) hqs (by omega) (by have := HWT.out; rw [HR5.out, List.length_drop, List.length_drop] at this; simp only [wt_app]; omega) (by rw [← HR5.out]; exact H1.out) H2.out (by omega))
                go_roundw
                case rel => exact HE.out.1
                case measure => exact HE.out.2
              · obtain ⟨cs, S5, t5, q, nv5, rfl, hpc5, hS5, hsq, hqs, hrd5, hk5⟩ := HP5.out
                obtain ⟨a0, a1, a2, a3, rfl⟩ := hpc5.four
                have hone := hpc5.one
                have ho0 := hone a0 (by simp)
                have ho1 := hone a1 (by simp)
                have ho2 := hone a2 (by simp)
                have ho3 := hone a3 (by simp)
                have HS5 := Lib.hid (HS4.out.call hk5 hrd5)
                have hx5 := hk5.size
                have hx4 := HS4.out.hK.size
                have HPC := Lib.hid (hpc5.kept (w' := w5.alloc (.cells #[a0, a1, a2, a3] 74)) (fun p hp => World.cell?_of_block (Below.heap_alloc w5 _ _ (hS5 _ hp).2.1)))
                have HSL : Hid (∀ b, S5 b → w.heap.size ≤ b ∧ b < (w5.alloc (.cells #[a0, a1, a2, a3] 74)).heap.size ∧ (Value.slice A n c0).ownBlock ≠ some b ∧ NT (w5.alloc (.cells #[a0, a1, a2, a3] 74)) b) := Lib.hid (fun b hb => by
                  obtain ⟨h3, h4, h5⟩ := hS5 b hb
                  refine ⟨by omega, by simp; omega, fun e => ?_, h5.of_eq (Below.heap_alloc w5 _ _ h4)⟩
                  have := (HS4.out.hP.lt e).2
                  omega)
                have HOE : Hid (O = .err no) := Lib.hid (by rw [HO.out, h2]; rfl)
                have HNO := Lib.hid (vrd_no HV1.out)
                clear hk5 h2 HP5 hpc5 hS5 hrd5 hone
                go_wp2_with (at_builtin; refine wpList_pushR rfl _ _ rfl w.heap.size _ rb (.slice A n c0) t n w rfl (HS5.out.hP.alloc _) (HS5.out.hK.alloc _) (Nat.le_refl _) _ 1 1 [a0, a1, a2, a3] rfl (reads_new4 _ _ _ _ _) S5 _ HPC.out HSL.out (by omega) (by have := HS5.out.hK.size; simp; omega) ?_; intro v6 w6 h1 h2 h3 h4; have HS6 := Lib.hid (HS5.out.pushed h1 h2 h3 h4); obtain ⟨A6, c6, rfl⟩ := h1.form; clear h1 h2 h3 h4)
                have HE := Lib.hid (HBAD.out q _ (t.app t5) (n + 1) no nv5 _ HS6.out hsq hqs (by omega) HNO.out HOE.out)
                go_roundw
                case rel => exact HE.out.1
                case measure => exact HE.out.2
            · have q36 : ((c.toNat : Int) == 36) = false := b8f h36
              have HST := Lib.hid (rstep_lit (t := t) hlt (cls_plain hlt (fun h => hce (HC.out.trans h)) (fun h => h36 (HC.out.trans h)) (by rw [← HC.out]; rintro (⟨_, h⟩ | ⟨h, _⟩); exact h34 h; cases h) (.inl rfl)) HRD.out HO.out)
              rw [← HC.out, ← HPP.out] at HST
              clear hce h36
              go_wp2_with fail
              refine (bytes_one s hs p pp rb (by omega) (by omega) e c HC.out.symm 0 nv _ HS4.out.hr).mono ?_
              rintro x w5 ⟨rfl, h1, h2⟩
              have HS5 := Lib.hid (HS4.out.bytes h1 h2)
              have HO5 := Lib.hid (Own9.kp HO4.out HS4.out.hr h2)
              clear h1 h2
              go_wp2_with (at_builtin; refine wpList_pushR rfl _ _ rfl w.heap.size _ rb (.slice A n c0) t n w rfl (HS5.out.hP.alloc _) (HS5.out.hK.alloc _) (Nat.le_refl _) _ 1 1 [.string ⟨#[c]⟩, .string ⟨#[]⟩, .int .u8 0, .slice none 0 0] rfl (reads_new4 _ _ _ _ _) (fun _ => False) _ (Pcs.one_litR _ _ [c]) (fun _ h => h.elim) (by omega) (by have := HS5.out.hK.size; simp; omega) ?_; intro v6 w6 h1 h2 h3 h4; have HS6 := Lib.hid (HS5.out.pushed h1 h2 h3 h4); have HO6 := Lib.hid (own9_grown (World.ownsRow.alloc HO5.out _) h3 (fun b hb => (h4 b hb).2)); obtain ⟨A6, c6, rfl⟩ := h1.form; clear h1 h2 h3 h4)
              obtain ⟨o', h1, h2⟩ := HST.out
              have HE := Lib.hid (HEND.out pp _ (t.app (.lit [c] .nil)) (n + 1) nv o' _ HS6.out (by rw [nms_app]; simpa [nms] using HO6.out) (by omega) (by omega) (by simp only [wt_app, T.wt, List.length_cons, List.length_nil]; omega) h1 h2 (by omega))
              clear h1 h2
              go_roundw
              case rel => exact HE.out.1
              case measure => exact HE.out.2
      · have HPE : Hid (s.drop p = []) := Lib.hid (List.drop_eq_nil_of_le (by omega))
        have HFN : Hid (o = ends .quoted) := Lib.hid (HRD.out.at_fin (by rw [HPE.out]; rfl))
        have HPQ : Hid (p = s.length) := Lib.hid (by omega)
        clear hRS hown hrd hO hrel
        obtain ⟨k0, k1, k2, f1⟩ := HS.out.cells
        have b0 : decide ((p : Int) < (s.length : Int)) = false := by rw [decide_eq_false_iff_not]; omega
        go_wp2_with fail
        go_quiet (fail)
        have HS1 := Lib.hid (HS.out.drewN nq)
        have HO1 : Hid (Own9 (wr.drewN nq) rb nv (mets acc t.nms)) := Lib.hid HOW.out
        clear k0 k1 k2 f1 HS HOW
        generalize wr.drewN nq = w1 at HS1 HO1 ⊢
        have HOE : Hid (O = .err 18) := Lib.hid (by rw [HO.out, HFN.out]; rfl)
        go_wp2_with fail
        refine (wrong_any s p rb e 18 0 nv _ HS1.out.hr).mono ?_
        rintro x w5 ⟨rfl, h1, h2⟩
        have HS5 : Hid (RS w w5 rb s e s.length (.slice A n c0) t n 18 nv) := Lib.hid (HS1.out.call h2 h1)
        clear h1 h2
        go_wp2_with fail
        go_ret
        rw [HOE.out]
        exact ⟨_, t, n, s.length, nv, rfl, HS5.out.hP, by omega, Nat.le_refl _, by omega, HS5.out.hr, HS5.out.hK⟩
    · obtain ⟨A, c0, rfl⟩ := hRS.hP.form
      have HS := Lib.hid hRS
      have HO := Lib.hid hO
      have HNO := Lib.hid hno
      have hlt : ¬ p < s.length := by omega
      clear hRS hO hrel hno
      obtain ⟨k0, k1, k2, f1⟩ := HS.out.cells
      have b0 : decide ((p : Int) < (s.length : Int)) = false := by rw [decide_eq_false_iff_not]; omega
      go_wp2_with fail
      go_quiet (fail)
      have HS1 := Lib.hid (HS.out.drewN nq)
      clear k0 k1 k2 f1 HS
      generalize wr.drewN nq = w1 at HS1 ⊢
      go_wp2_with fail
      refine (wrong_any s p rb e 18 no nv _ HS1.out.hr).mono ?_
      rintro x w5 ⟨rfl, h1, h2⟩
      have HS5 : Hid (RS w w5 rb s e s.length (.slice A n c0) t n no nv) := Lib.hid (HS1.out.call h2 (by rw [if_neg HNO.out] at h1; exact h1))
      clear h1 h2
      go_wp2_with fail
      go_ret
      rw [HO.out]
      exact ⟨_, t, n, s.length, nv, rfl, HS5.out.hP, by omega, Nat.le_refl _, by omega, HS5.out.hr, HS5.out.hK⟩
end Exp
end Go.Proofs.YtnmnhnhlggbijaaDoor
