/-
  The walks of package expand's all and of a variable's put at this seat's translation: what pieces come to is laid behind a builder's bytes, as far as that is no more than 65536 bytes.
-/
import Derived.Test.YtnmnhnhlggbijaaDoorExpB
import Derived.Test.YtnmnhnhlggbijaaDoorExpN
namespace Go.Proofs.YtnmnhnhlggbijaaDoor
open Go.RowKit
namespace Exp
open T

def AllC (m : Nat) : Prop := ∀ (t : T) (k c : Nat) (A : Option Addr) (vs : List Value) (S : Nat → Prop) (b bm N : Nat) (l : List UInt8) (f : List UInt8 → List UInt8) (w : World), t.wt ≤ m → t.wt ≤ 4398046511104 → Pcs encP w S t vs k → Reads w b 1 A k vs →
  (∀ x, S x → x < b) → bm < b → Vars w bm N f → Bd b l w → l.length ≤ 65536 → k ≤ 4398046511104 →
  Calls Tryd.prog 41 #[.slice A k c, .pointer (some ⟨b, 0, none⟩), .map (some bm)] w (PutPost b l (t.val f) w)
/-- What a variable comes to. -/
def vval (f : List UInt8 → List UInt8) (n : List UInt8) (o : UInt8) (i : T) : List UInt8 := if o = 43 then (if f n = [] then [] else i.val f) else if o = 0 ∨ f n ≠ [] then f n else i.val f
def VPutC (m : Nat) : Prop := ∀ (n : List UInt8) (o : UInt8) (i : T) (k c : Nat) (A : Option Addr) (us : List Value) (S : Nat → Prop) (b bm N : Nat) (l : List UInt8) (f : List UInt8 → List UInt8) (w : World), n.length + 1 + i.wt ≤ m → n.length + 1 + i.wt ≤ 4398046511104 → Pcs encP w S i us k → Reads w b 1 A k us →
  (∀ x, S x → x < b) → bm < b → Vars w bm N f → Bd b l w → l.length ≤ 65536 → k ≤ 4398046511104 →
  Calls Tryd.prog 113 #[.agg #[.string ⟨n.toArray⟩, .int .u8 o.toNat, .slice A k c], .pointer (some ⟨b, 0, none⟩), .map (some bm)] w (PutPost b l (vval f n o i) w)
theorem PutPost.alloc {b : Nat} {l x : List UInt8} {w : World} {o : Obj} {e : Ending} {w' : World} (hb : b < w.heap.size) (h : PutPost b l x (w.alloc o) e w') : PutPost b l x w e w' := by
  obtain ⟨l', h1, h2, h3, h4⟩ := h
  exact ⟨l', h1, h2, h3, ((Below.refl b w).alloc (Nat.le_of_lt hb) o).trans h4⟩
theorem Vars.alloc {w : World} {bm N : Nat} {f : List UInt8 → List UInt8} (h : Vars w bm N f) (o : Obj) : Vars (w.alloc o) bm N f := h.kept (row := none) (World.grownBy_alloc w o none) (by simp)
theorem ne_of_isEmpty {u : List UInt8} (h : u ≠ []) : u.isEmpty = false := by cases u with | nil => exact absurd rfl h | cons => rfl
set_option maxHeartbeats 2000000 in
theorem vput_step (m : Nat) (hA : ∀ m', m' < m → AllC m') : VPutC m := by
  intro n o i k c A us S b bm N l f w hm hw hp hr hS hbm hv hb hl hk
  have hbl := hb.lt
  have HL := Lib.hid (hv.alloc (.cells #[.string ⟨n.toArray⟩, .int .u8 o.toNat, .slice A k c] 130))
  have hlook := HL.out.look n (by omega)
  have HFL : Hid ((f n).length ≤ 140737488355328) := Lib.hid (by obtain ⟨D, _, _, h⟩ := hv; exact (h n).2)
  obtain ⟨u, hu⟩ : ∃ u, u = f n := ⟨_, rfl⟩
  unfold vval
  rw [← hu] at hlook HFL ⊢
  have HBA := Lib.hid (hb.alloc (.cells #[.string ⟨n.toArray⟩, .int .u8 o.toNat, .slice A k c] 130))
  have HALL : Hid (Calls Tryd.prog 41 #[.slice A k c, .pointer (some ⟨b, 0, none⟩), .map (some bm)] (w.alloc (.cells #[.string ⟨n.toArray⟩, .int .u8 o.toNat, .slice A k c] 130)) (PutPost b l (i.val f) (w.alloc (.cells #[.string ⟨n.toArray⟩, .int .u8 o.toNat, .slice A k c] 130)))) :=
    Lib.hid (hA (m - 1) (by omega) i k c A us S b bm N l f _ (by omega) (by omega) (hp.kept fun p hp => World.cell?_alloc_lt w _ p (by have := hS _ hp; omega)) (hr.alloc (Nat.le_of_lt hbl) _) hS hbm HL.out HBA.out hl hk)
  have HLIT : Hid (Calls Tryd.prog 96 #[.string ⟨u.toArray⟩, .pointer (some ⟨b, 0, none⟩), .map (some bm)] (w.alloc (.cells #[.string ⟨n.toArray⟩, .int .u8 o.toNat, .slice A k c] 130)) (PutPost b l u (w.alloc (.cells #[.string ⟨n.toArray⟩, .int .u8 o.toNat, .slice A k c] 130)))) :=
    Lib.hid (litPut_any b l u _ _ HBA.out hl HFL.out)
  have HBL := Lib.hid hbl
  clear hbl hv hu hA hp hr hS hb hm hw
  generalize i.val f = iv at HALL ⊢
  by_cases h43 : o = 43
  · have q43 : ((o.toNat : Int) == 43) = true := b8t h43
    have n43 : ((o.toNat : Int) != 43) = false := n8t h43
    rw [if_pos h43]
    clear h43
    by_cases hu : u = []
    · subst hu
      rw [if_pos rfl]
      have HL5 := Lib.hid hl
      go_enter Tryd.func113, Tryd.ntmps113
      go_wp2_with fail
      go_ret
      exact PutPost.alloc HBL.out ⟨l, by rw [decide_eq_true (show l.length + ([] : List UInt8).length ≤ 65536 by simpa using HL5.out)]; rfl, fun _ => by simp, HBA.out, Below.refl _ _⟩
    · rw [if_neg hu]
      have hui := ne_of_isEmpty hu
      clear hu
      go_enter Tryd.func113, Tryd.ntmps113
      go_wp2_with fail
      refine HALL.out.mono ?_
      rintro e w2 ⟨l2, rfl, h2⟩
      have H2 : Hid (PutPost b l iv _ _ w2) := Lib.hid ⟨l2, rfl, h2⟩
      clear h2
      go_wp2_with fail
      go_ret
      exact PutPost.alloc HBL.out H2.out
  · have q43 : ((o.toNat : Int) == 43) = false := b8f h43
    have n43 : ((o.toNat : Int) != 43) = true := n8f h43
    rw [if_neg h43]
    clear h43
    by_cases h0 : o = 0
    · have q0 : ((o.toNat : Int) == 0) = true := b8t h0
      rw [if_pos (.inl h0)]
      clear h0
      go_enter Tryd.func113, Tryd.ntmps113
      go_wp2_with fail
      refine HLIT.out.mono ?_
      rintro e w2 ⟨l2, rfl, h2⟩
      have H2 : Hid (PutPost b l u _ _ w2) := Lib.hid ⟨l2, rfl, h2⟩
      clear h2
      go_wp2_with fail
      go_ret
      exact PutPost.alloc HBL.out H2.out
    · have q0 : ((o.toNat : Int) == 0) = false := b8f h0
      by_cases hu : u = []
      · subst hu
        rw [if_neg (by simp [h0])]
        clear h0
        go_enter Tryd.func113, Tryd.ntmps113
        go_wp2_with fail
        refine HALL.out.mono ?_
        rintro e w2 ⟨l2, rfl, h2⟩
        have H2 : Hid (PutPost b l iv _ _ w2) := Lib.hid ⟨l2, rfl, h2⟩
        clear h2
        go_wp2_with fail
        go_ret
        exact PutPost.alloc HBL.out H2.out
      · rw [if_pos (.inr hu)]
        have hui := ne_of_isEmpty hu
        clear hu h0
        go_enter Tryd.func113, Tryd.ntmps113
        go_wp2_with fail
        refine HLIT.out.mono ?_
        rintro e w2 ⟨l2, rfl, h2⟩
        have H2 : Hid (PutPost b l u _ _ w2) := Lib.hid ⟨l2, rfl, h2⟩
        clear h2
        go_wp2_with fail
        go_ret
        exact PutPost.alloc HBL.out H2.out
theorem litMethodPut (v : Value) (w : World) : (Go.method 270 100 v "strata/expand.put").run Tryd.prog w = .ok (96, v) w := by kernel_rfl
theorem varMethodPut (v : Value) (w : World) : (Go.method 270 130 v "strata/expand.put").run Tryd.prog w = .ok (113, v) w := by kernel_rfl
theorem all_step (m : Nat) (hV : VPutC m) : AllC m := by
  intro t k c A vs S b bm N l f w hm hw hp hr hS hbm hv hb hl hk
  have HP := Lib.hid hp
  have HRD := Lib.hid hr
  have HS := Lib.hid hS
  have HV0 := Lib.hid hv
  have HVP := Lib.hid hV
  have HW := Lib.hid hw
  have HM := Lib.hid hm
  have HI0 : Hid (∃ (i : Nat) (t2 : T) (l' : List UInt8), i = 0 ∧ Pcs encP w S t2 (vs.drop i) (k - i) ∧ t2.wt ≤ t.wt ∧ Bd b l' w ∧ l' ++ t2.val f = l ++ t.val f ∧ l'.length ≤ 65536) := Lib.hid ⟨0, t, l, rfl, hp, Nat.le_refl _, hb, rfl, hl⟩
  clear hp hr hS hv hb hl hV hw hm
  go_enter Tryd.func41, Tryd.ntmps41
  go_wp2_with fail
  go_loopw [11] (fun vi wr => ∃ i : Nat, i ≤ k ∧ vi = .int .i64 i ∧ Hid (Below b w wr) ∧ Hid (∃ (t2 : T) (l' : List UInt8), Pcs encP w S t2 (vs.drop i) (k - i) ∧ t2.wt ≤ t.wt ∧ Bd b l' wr ∧ l' ++ t2.val f = l ++ t.val f ∧ l'.length ≤ 65536)) (fun vi _ => k - (intOf vi).toNat)
  case atStart => exact ⟨0, by omega, rfl, Lib.hid (Below.refl _ _), Lib.hid (by obtain ⟨i, t2, l', rfl, h⟩ := HI0.out; exact ⟨t2, l', h⟩)⟩
  case round =>
    obtain ⟨i, hi, rfl, HB, HR⟩ := hrel
    obtain ⟨t2, l', hp2, ht2, hb2, heq, hl2⟩ := HR.out
    by_cases hlt : i < k
    · obtain ⟨ad, x, rfl, _, hx, hcell⟩ := (HRD.out.below HB.out).at_ hlt
      have HLA : Hid (∀ (l3 : List UInt8) (x : List UInt8) (t3 : T), t2.val f = x ++ t3.val f → l3 = l' ++ x → l3 ++ t3.val f = l ++ t.val f) := Lib.hid (fun l3 x t3 h1 h2 => by rw [h2, List.append_assoc, ← h1, heq])
      have HLN : Hid (∀ (x : List UInt8) (t3 : T), t2.val f = x ++ t3.val f → ¬ l'.length + x.length ≤ 65536 → decide (l.length + (t.val f).length ≤ 65536) = false) := Lib.hid (fun x t3 h1 h2 => by
        rw [decide_eq_false_iff_not]
        have := congrArg List.length heq
        rw [h1] at this
        simp only [List.length_append] at this
        omega)
      have HB2 := Lib.hid hb2
      have HL2 := Lib.hid hl2
      have HD : Hid (∀ vs3, vs.drop i = x :: vs3 → vs3 = vs.drop (i + 1)) := Lib.hid (fun vs3 h => by
        have := congrArg (List.drop 1) h
        rw [List.drop_drop] at this
        exact this.symm)
      have HX : Hid (∀ v vs3, vs.drop i = v :: vs3 → x = v) := Lib.hid (fun v vs3 h => by
        have h1 := congrArg (fun l => l[0]?) h
        simp [List.getElem?_drop] at h1
        rw [hx] at h1
        exact Option.some.inj h1)
      have HWT := Lib.hid (show t2.wt ≤ 4398046511104 from Nat.le_trans ht2 HW.out)
      rcases hp2.next (by omega) with ⟨u, t3, vs3, rfl, hvs, hp3⟩ | ⟨n, o, A2, m2, c2, us, i2, t3, vs3, rfl, hvs, hpi, hm2, hA2, hp3, hn⟩
      · obtain rfl := HX.out _ _ hvs
        obtain rfl := HD.out _ hvs
        unfold litV at hcell
        have HC := Lib.hid (litPut_any b l' u (.map (some bm)) wr HB2.out HL2.out (by have := HWT.out; rw [wt_lits] at this; omega))
        have HP3 : Hid (Pcs encP w S t3 (vs.drop (i + 1)) (k - (i + 1)) ∧ t3.wt ≤ t.wt) := Lib.hid ⟨by rw [show k - (i + 1) = k - i - 1 by omega]; exact hp3, by rw [wt_lits] at ht2; omega⟩
        have hval : (lits u t3).val f = u ++ t3.val f := val_lits _ _ _
        have HLA := Lib.hid (fun l3 => HLA.out l3 u t3 hval)
        have HLN := Lib.hid (HLN.out u t3 hval)
        have hmt := litMethodPut
        clear hx hvs hp2 ht2 hb2 heq hl2 HX HD hp3 hval HR HWT
        by_cases hfit : l'.length + u.length ≤ 65536
        · unfold PutPost at HC
          rw [decide_eq_true hfit] at HC
          have HF := Lib.hid hfit
          clear hfit
          go_wp2_with fail
          refine HC.out.mono ?_
          rintro e w3 ⟨l3, rfl, h1, h2, h3⟩
          have h1' := h1 HF.out
          have HL3 := Lib.hid (HLA.out l3 h1')
          have HL4 : Hid (l3.length ≤ 65536) := Lib.hid (by rw [h1', List.length_append]; exact HF.out)
          have H2 := Lib.hid h2
          have H3 := Lib.hid (HB.out.trans h3)
          clear h1 h1' h2 h3
          go_wp2_with fail
          go_roundw
          case rel => exact ⟨i + 1, by omega, by go_num, H3, Lib.hid ⟨t3, l3, HP3.out.1, HP3.out.2, H2.out, HL3.out, HL4.out⟩⟩
          case measure => simp [intOf]; omega
        · unfold PutPost at HC
          rw [decide_eq_false hfit] at HC
          have HF := Lib.hid (HLN.out hfit)
          clear hfit
          go_wp2_with fail
          refine HC.out.mono ?_
          rintro e w3 ⟨l3, rfl, h1, h2, h3⟩
          have H2 := Lib.hid h2
          have H3 := Lib.hid (HB.out.trans h3)
          clear h1 h2 h3
          go_wp2_with fail
          go_ret
          exact ⟨l3, by rw [HF.out]; rfl, fun h => absurd (decide_eq_true h) (by rw [HF.out]; simp), H2.out, H3.out⟩
      · obtain rfl := HX.out _ _ hvs
        obtain rfl := HD.out _ hvs
        unfold varV at hcell
        have HB0 := HB.out
        have hbw : b ≤ wr.heap.size := Nat.le_of_lt HB2.out.lt
        have hwn : n.length + 1 + i2.wt ≤ t.wt := by simp [T.wt] at ht2; omega
        have HC := Lib.hid (HVP.out n o i2 m2 c2 A2 us S b bm N l' f wr (by have := HM.out; omega) (by have := HW.out; omega) (hpi.kept fun p hp => HB0.cell (HS.out _ hp)) ⟨by have := hpi.len; simpa [encP] using this, fun h => by
          obtain ⟨ad2, e2, hS2, hc2⟩ := hA2 h
          exact ⟨ad2, e2, HS.out _ hS2, fun j u hu => (HB0.cell (by rw [block_of_add]; exact HS.out _ hS2)).trans (hc2 j u hu)⟩⟩
          HS.out hbm (HV0.out.block (HB0.block bm hbm)) HB2.out HL2.out hm2)
        have HP3 : Hid (Pcs encP w S t3 (vs.drop (i + 1)) (k - (i + 1)) ∧ t3.wt ≤ t.wt) := Lib.hid ⟨by rw [show k - (i + 1) = k - i - 1 by omega]; exact hp3, by simp [T.wt] at ht2; omega⟩
        have hval : T.val f (.var n o i2 t3) = vval f n o i2 ++ t3.val f := rfl
        have HLA := Lib.hid (fun l3 => HLA.out l3 (vval f n o i2) t3 hval)
        have HLN := Lib.hid (HLN.out (vval f n o i2) t3 hval)
        have hmt := varMethodPut
        generalize vval f n o i2 = u at HC HLA HLN
        clear hx hvs hp2 ht2 hb2 heq hl2 HX HD hp3 hval HR HWT hpi hA2 hn HB0 hwn hbw
        by_cases hfit : l'.length + u.length ≤ 65536
        · unfold PutPost at HC
          rw [decide_eq_true hfit] at HC
          have HF := Lib.hid hfit
          clear hfit
          go_wp2_with fail
          refine HC.out.mono ?_
          rintro e w3 ⟨l3, rfl, h1, h2, h3⟩
          have h1' := h1 HF.out
          have HL3 := Lib.hid (HLA.out l3 h1')
          have HL4 : Hid (l3.length ≤ 65536) := Lib.hid (by rw [h1', List.length_append]; exact HF.out)
          have H2 := Lib.hid h2
          have H3 := Lib.hid (HB.out.trans h3)
          clear h1 h1' h2 h3
          go_wp2_with fail
          go_roundw
          case rel => exact ⟨i + 1, by omega, by go_num, H3, Lib.hid ⟨t3, l3, HP3.out.1, HP3.out.2, H2.out, HL3.out, HL4.out⟩⟩
          case measure => simp [intOf]; omega
        · unfold PutPost at HC
          rw [decide_eq_false hfit] at HC
          have HF := Lib.hid (HLN.out hfit)
          clear hfit
          go_wp2_with fail
          refine HC.out.mono ?_
          rintro e w3 ⟨l3, rfl, h1, h2, h3⟩
          have H2 := Lib.hid h2
          have H3 := Lib.hid (HB.out.trans h3)
          clear h1 h2 h3
          go_wp2_with fail
          go_ret
          exact ⟨l3, by rw [HF.out]; rfl, fun h => absurd (decide_eq_true h) (by rw [HF.out]; simp), H2.out, H3.out⟩
    · have hik : k - i = 0 := by omega
      rw [hik] at hp2
      have ht0 := hp2.zero
      subst ht0
      have hlv : l' = l ++ t.val f := by simpa [T.val] using heq
      have HF : Hid (decide (l.length + (t.val f).length ≤ 65536) = true) := Lib.hid (by
        rw [decide_eq_true_iff, ← List.length_append, ← hlv]; exact hl2)
      have HLV := Lib.hid hlv
      have HB2 := Lib.hid hb2
      clear hik hp2 ht2 hb2 heq hl2 hlv HR
      go_wp2
      go_ret
      exact ⟨l', by rw [HF.out]; rfl, fun _ => HLV.out, HB2.out, HB.out⟩
theorem all_all (m : Nat) : AllC m := by
  induction m using Nat.strongRecOn with
  | ind m ih => exact all_step m (vput_step m ih)
end Exp
end Go.Proofs.YtnmnhnhlggbijaaDoor
