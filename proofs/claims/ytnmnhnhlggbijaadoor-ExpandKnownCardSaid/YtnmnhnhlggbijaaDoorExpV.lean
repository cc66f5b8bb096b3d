/-
  The walk of package expand's (*reader).variable at this seat's translation, for any text from a $ on.
-/
import Derived.Test.YtnmnhnhlggbijaaDoorExpR
import Derived.StillTailTactics
namespace Go.Proofs.YtnmnhnhlggbijaaDoor
open Go.RowKit
namespace Exp
open T

/-- What read leaves. -/
def ReadPost (rb : Nat) (s : List UInt8) (e : UInt8) (a : Nat) (O : Out) (w : World) (x : Ending) (w' : World) : Prop :=
  match O with
  | .ok t r => ∃ v n q, x = .returned (.tuple #[v, .nilIface]) ∧ PP w' w.heap.size v t n ∧ n + a ≤ q ∧ q ≤ s.length ∧ r = s.drop q ∧ Rdr w' rb s q e ∧ Kp w.heap.size (· = rb) w w'
  | .err no => x = .returned (.tuple #[.slice none 0 0, .iface 45 (.int .i64 no)]) ∧ (∃ q, Rdr w' rb s q e) ∧ Kp w.heap.size (· = rb) w w'
def ReadC (m : Nat) : Prop := ∀ (k : K) (s : List UInt8) (a rb : Nat) (e : UInt8) (O : Out) (w : World), s.length ≤ 4398046511104 → a ≤ s.length → s.length - a ≤ m → Rdr w rb s a e → Rd e k (s.drop a) O →
  Calls Tryd.prog 31 #[.pointer (some ⟨rb, 0, none⟩), .int .i64 k.num] w (ReadPost rb s e a O w)
/-- What a variable's text comes to, behind its $. -/
def VRd (e : UInt8) (r : List UInt8) (O : Out) : Prop :=
  match clsVar r with
  | .fin o => O = o
  | .lit p r' => O = .ok p r'
  | .quo _ => False
  | .var n o q => (∃ t r', Rd e .braces q (.ok t r') ∧ O = .ok (.var n o t .nil) r') ∨ ∃ no, Rd e .braces q (.err no) ∧ O = .err no
/-- What variable leaves. -/
def VarPost (rb : Nat) (s : List UInt8) (e : UInt8) (p : Nat) (O : Out) (w : World) (x : Ending) (w' : World) : Prop :=
  match O with
  | .ok t r => ∃ (u : Value) (S : Nat → Prop) (q : Nat), x = .returned (.tuple #[u, .nilIface]) ∧ Pcs encP w' S t [u] 1 ∧ (∀ b, S b → w.heap.size ≤ b ∧ b < w'.heap.size) ∧ r = s.drop q ∧ p < q ∧ q ≤ s.length ∧ Rdr w' rb s q e ∧ Kp w.heap.size (· = rb) w w'
  | .err no => ∃ u, x = .returned (.tuple #[u, .iface 45 (.int .i64 no)]) ∧ (∃ q, Rdr w' rb s q e) ∧ Kp w.heap.size (· = rb) w w'
def VarC (m : Nat) : Prop := ∀ (s : List UInt8) (p rb : Nat) (e : UInt8) (O : Out) (w : World), s.length ≤ 4398046511104 → p < s.length → s.length - p ≤ m → Rdr w rb s p e → VRd e (s.drop (p + 1)) O →
  Calls Tryd.prog 50 #[.pointer (some ⟨rb, 0, none⟩)] w (VarPost rb s e p O w)

theorem Rdr.to {w : World} {rb p : Nat} {s : List UInt8} {e : UInt8} (h : Rdr w rb s p e) (q : Nat) (z : Int) (hz : z = q) : Rdr (w.setCell ⟨rb, 1, none⟩ (.int .i64 z)) rb s q e := by subst hz; exact h.go q
theorem Kp.rdr {w w' : World} {B rb : Nat} (h : Kp B (· = rb) w w') (u : Value) : Kp B (· = rb) w (w'.setCell ⟨rb, 1, none⟩ u) := Kp.setCell (X := (· = rb)) (p := ⟨rb, 1, none⟩) h (.inr rfl) u

theorem clsEnd_1 {n R : List UInt8} (h : R.take 1 = [125]) : clsEnd n R = .lit (.var n 0 .nil .nil) (R.drop 1) := by
  cases R with
  | nil => cases h
  | cons c r => have : c = 125 := by simpa using h
                subst this; rfl
theorem clsEnd_2 {n R : List UInt8} {o : UInt8} (ho : o = 45 ∨ o = 43) (h : R.take 2 = [58, o]) : clsEnd n R = .var n o (R.drop 2) := by
  cases R with
  | nil => cases h
  | cons c r => cases r with
    | nil => cases h
    | cons d r =>
      have h1 : c = 58 ∧ d = o := by simpa using h
      obtain ⟨rfl, rfl⟩ := h1
      rcases ho with rfl | rfl <;> rfl
theorem clsEnd_3 {n R : List UInt8} (h1 : R.take 1 ≠ [125]) (h2 : R.take 2 ≠ [58, 45]) (h3 : R.take 2 ≠ [58, 43]) : clsEnd n R = .fin (.err 4) := by
  cases R with
  | nil => rfl
  | cons c r =>
    have hc : c ≠ 125 := fun e => h1 (by rw [e]; rfl)
    simp only [clsEnd, if_neg hc]
    split
    · rename_i h4
      subst h4
      cases r with
      | nil => rfl
      | cons d r =>
        have : ¬ (d = 45 ∨ d = 43) := by rintro (rfl | rfl); exact h2 rfl; exact h3 rfl
        simp only [if_neg this]
    · rfl
theorem prefix_t (R q : List UInt8) (h : R.take q.length = q) (w : World) : Calls Tryd.prog 64 #[.string ⟨R.toArray⟩, .string ⟨q.toArray⟩] w fun x w' => x = .returned (.bool true) ∧ w = w' := by
  have := prefix_any R q w
  rwa [show (R.take q.length == q) = true by rw [h]; exact beq_self_eq_true q] at this
theorem prefix_f (R q : List UInt8) (h : R.take q.length ≠ q) (w : World) : Calls Tryd.prog 64 #[.string ⟨R.toArray⟩, .string ⟨q.toArray⟩] w fun x w' => x = .returned (.bool false) ∧ w = w' := by
  have := prefix_any R q w
  rwa [show (R.take q.length == q) = false by rw [beq_eq_false_iff_ne]; exact h] at this
theorem name_nil {r : List UInt8} (h : nl 0 r = 0) : name r = [] := by unfold name; rw [h]; rfl
theorem name_ne {r : List UInt8} (h : nl 0 r ≠ 0) : name r ≠ [] := fun e => h (by rw [← name_len, e]; rfl)

set_option maxHeartbeats 8000000 in
set_option maxRecDepth 100000 in
theorem var_step (m : Nat) (hR : ∀ m', m' < m → ReadC m') : VarC m := by
  intro s p rb e O w hs hp hm hr hv
  obtain ⟨p1, hp1⟩ : ∃ p1, p1 = p + 1 := ⟨_, rfl⟩
  rw [← hp1] at hv
  have hrl := Blk.lt hr
  have c1 := hr.c1
  have f1 := Blk.frozen hr 1
  have HR1 := Lib.hid (hr.to p1 ((p : Int) + 1) (by omega))
  have HK1 := Lib.hid ((Kp.refl w.heap.size (· = rb) w).rdr (.int .i64 ((p : Int) + 1)))
  have hp1l : p1 ≤ s.length := by omega
  have hpp : p < p1 := by omega
  have HR0 := Lib.hid hR
  have HM : Hid (s.length - p ≤ m) := Lib.hid hm
  clear hp1 hr hR hm
  unfold VRd clsVar at hv
  have HNL := Lib.hid (nl_le 0 (s.drop p1))
  have HNN := Lib.hid (name_len (s.drop p1))
  have HNM := Lib.hid (name_any s hs p1 rb hp1l e)
  by_cases h0 : nl 0 (s.drop p1) ≠ 0
  · rw [if_pos h0] at hv
    simp only at hv
    have HU := Lib.hid (name_ne h0)
    unfold NamePost at HNM
    generalize name (s.drop p1) = u at hv HU HNN HNM
    have HO := Lib.hid hv
    have hul : u.length ≤ s.length - p1 := by have := HNN.out; have h2 := HNL.out; rw [List.length_drop] at h2; omega
    clear hv h0
    have hui : u.isEmpty = false := by cases u with | nil => exact absurd rfl HU.out | cons => rfl
    go_enter Tryd.func50, Tryd.ntmps50
    go_wp2_with fail
    refine (HNM.out _ HR1.out).mono ?_
    rintro x w2 ⟨mm, rfl, hw⟩
    have HR2 : Hid (Rdr w2 rb s p1 e) := Lib.hid (by rw [hw]; exact HR1.out)
    have HK2 : Hid (Kp w.heap.size (· = rb) w w2) := Lib.hid (by rw [hw]; exact HK1.out.drewN _)
    clear hw
    have c1 := HR2.out.c1
    have f1 := Blk.frozen HR2.out 1
    go_wp2_with fail
    go_ret2
    rw [HO.out]
    exact ⟨_, fun _ => False, p1 + u.length, rfl, Pcs.var (E := encP) u 0 HU.out (by omega) (fun h => absurd h (by omega)) .nil .nil, fun _ h => h.elim, by rw [List.drop_drop, HNN.out], by omega, by omega, HR2.out.to _ _ (by omega), HK2.out.rdr _⟩
  · rw [if_neg h0] at hv
    unfold NamePost at HNM
    rw [name_nil (show nl 0 (s.drop p1) = 0 by omega)] at HNM
    have HH : Hid (∀ q w, q.length = 1 → Calls Tryd.prog 64 #[.string ⟨(s.drop p1).toArray⟩, .string ⟨q.toArray⟩] w fun x w' => x = .returned (.bool ((s.drop p1).take 1 == q)) ∧ w = w') := Lib.hid (fun q w hq => hq ▸ prefix_any (s.drop p1) q w)
    by_cases hb : (s.drop p1).take 1 = [123]
    · have hbt : ((s.drop p1).take 1 == [123]) = true := by rw [hb]; rfl
      have HC : Hid (∀ w, Calls Tryd.prog 64 #[.string ⟨(s.drop p1).toArray⟩, .string ⟨#[123]⟩] w fun x w' => x = .returned (.bool true) ∧ w = w') := Lib.hid (by
        intro w; have := HH.out [123] w rfl; rw [hbt] at this; exact this)
      have hlt1 : p1 < s.length := by
        rcases Nat.lt_or_ge p1 s.length with h | h
        · exact h
        · rw [List.drop_eq_nil_of_le h] at hb; cases hb
      obtain ⟨p2, hp2⟩ : ∃ p2, p2 = p1 + 1 := ⟨_, rfl⟩
      have hv2 : match clsBr (s.drop p2) with
          | .fin o => O = o
          | .lit p r' => O = .ok p r'
          | .quo _ => False
          | .var n o q => (∃ t r', Rd e .braces q (.ok t r') ∧ O = .ok (.var n o t .nil) r') ∨ ∃ no, Rd e .braces q (.err no) ∧ O = .err no := by
        rw [drop_at hlt1, ← hp2] at hv
        rw [drop_at hlt1] at hb
        have : s.getD p1 0 = 123 := by simpa using hb
        simp only [if_pos this] at hv
        exact hv
      have hp2l : p2 ≤ s.length := by omega
      have hz2 : (p1 : Int) + 1 = p2 := by omega
      have hpp2 : p < p2 := by omega
      have HZ2 := Lib.hid hz2
      have HNM2 := Lib.hid (name_any s hs p2 rb hp2l e)
      unfold NamePost at HNM2
      have HNN2 := Lib.hid (name_len (s.drop p2))
      have HNL2 := Lib.hid (nl_le 0 (s.drop p2))
      unfold clsBr at hv2
      obtain ⟨u, hu⟩ : ∃ u, u = name (s.drop p2) := ⟨_, rfl⟩
      rw [← hu] at hv2 HNM2 HNN2
      obtain ⟨p3, hp3⟩ : ∃ p3, p3 = p2 + u.length := ⟨_, rfl⟩
      have hp3l : p3 ≤ s.length := by have h1 := HNN2.out; have h2 := HNL2.out; rw [List.length_drop] at h2; omega
      have hz3 : (p2 : Int) + (u.length : Int) = p3 := by omega
      have hpp3 : p < p3 := by omega
      have HZ3 := Lib.hid hz3
      have HVB : Hid (if u.length = 0 then O = .err 4 else match clsEnd u (s.drop p3) with
          | .fin o => O = o
          | .lit p r' => O = .ok p r'
          | .quo _ => False
          | .var n o q => (∃ t r', Rd e .braces q (.ok t r') ∧ O = .ok (.var n o t .nil) r') ∨ ∃ no, Rd e .braces q (.err no) ∧ O = .err no) := Lib.hid (by
        rw [HNN2.out]
        split
        · rename_i h1; rw [if_pos h1] at hv2; exact hv2
        · rename_i h1; rw [if_neg h1, List.drop_drop, ← HNN2.out, ← hp3] at hv2; exact hv2)
      have hul : u.length ≤ 4398046511104 := by have h1 := HNN2.out; have h2 := HNL2.out; rw [List.length_drop] at h2; omega
      have hsl := fun wx => run_slice_from_list Tryd.underlying9 s .i64 (p1 : Int) p1 rfl hp1l wx
      have hsl3 := fun wx => run_slice_from_list Tryd.underlying9 s .i64 (p3 : Int) p3 rfl hp3l wx
      obtain ⟨R, hRR⟩ : ∃ R, R = s.drop p3 := ⟨_, rfl⟩
      rw [← hRR] at HVB hsl3
      have HRR := Lib.hid hRR
      clear hRR
      clear hv hv2 h0 hb hbt HH hp2 hz2 hp3 hz3 hu
      go_enter Tryd.func50, Tryd.ntmps50
      go_wp2_with fail
      refine (HNM.out _ HR1.out).mono ?_
      rintro x w2 ⟨mm, rfl, hw⟩
      have HR2 : Hid (Rdr w2 rb s p1 e) := Lib.hid (by rw [hw]; exact HR1.out)
      have HK2 : Hid (Kp w.heap.size (· = rb) w w2) := Lib.hid (by rw [hw]; exact HK1.out.drewN _)
      clear hw
      have c1 := HR2.out.c1
      have c0 := HR2.out.c0
      go_wp2_with fail
      go_quiet (exact Calls.quiet_of ((HC.out _).mono (by rintro e w' ⟨rfl, rfl⟩; exact ⟨rfl, 0, rfl⟩)))
      have HR3 : Hid (Rdr (w2.drewN nq) rb s p1 e) := Lib.hid HR2.out
      have HK3 : Hid (Kp w.heap.size (· = rb) w (w2.drewN nq)) := Lib.hid (HK2.out.drewN _)
      clear c1 c0
      generalize w2.drewN nq = w3 at HR3 HK3 ⊢
      have c1 := HR3.out.c1
      have f1 := Blk.frozen HR3.out 1
      have HR4 := Lib.hid (HR3.out.to p2 ((p1 : Int) + 1) HZ2.out)
      have HK4 := Lib.hid (HK3.out.rdr (.int .i64 ((p1 : Int) + 1)))
      go_wp2_with fail
      refine (HNM2.out _ HR4.out).mono ?_
      rintro x w4 ⟨mm2, rfl, hw⟩
      have HR5 : Hid (Rdr w4 rb s p2 e) := Lib.hid (by rw [hw]; exact HR4.out)
      have HK5 : Hid (Kp w.heap.size (· = rb) w w4) := Lib.hid (by rw [hw]; exact HK4.out.drewN _)
      clear hw c1 f1
      have c1 := HR5.out.c1
      have f1 := Blk.frozen HR5.out 1
      go_wp2_with fail
      have HB6 := Lib.hid (Blk.new w4 130 #[.string ⟨u.toArray⟩, .int .u8 0, .slice none 0 0])
      have HR6 : Hid (Rdr (w4.alloc (.cells #[.string ⟨u.toArray⟩, .int .u8 0, .slice none 0 0] 130)) rb s p2 e) := Lib.hid (Blk.alloc HR5.out _)
      have HK6 : Hid (Kp w.heap.size (· = rb) w (w4.alloc (.cells #[.string ⟨u.toArray⟩, .int .u8 0, .slice none 0 0] 130))) := Lib.hid (HK5.out.alloc HK5.out.size _)
      have hbn : w.heap.size ≤ w4.heap.size := HK5.out.size
      clear c1 f1
      generalize w4.alloc (.cells #[.string ⟨u.toArray⟩, .int .u8 0, .slice none 0 0] 130) = w5 at HB6 HR6 HK6 ⊢
      generalize w4.heap.size = b5 at HB6 hbn ⊢
      have hne : ¬ rb = b5 := by omega
      have hne2 : ¬ b5 = rb := by omega
      have d0 := HB6.out.cell 0
      have d1 := HB6.out.cell 1
      have d2 := HB6.out.cell 2
      simp only [List.getElem?_toArray, List.getElem?_cons_zero, List.getElem?_cons_succ] at d0 d1 d2
      have c0 := HR6.out.c0
      have c1 := HR6.out.c1
      have f1 := Blk.frozen HR6.out 1
      go_still_tail 10, (by kernel_rfl)
      change wpList _ _ _ _ _ w5.drew
      go_wp2_with fail
      have HR7 : Hid (Rdr (w5.setCell ⟨rb, 1, none⟩ (.int .i64 ((p2 : Int) + (u.length : Int)))).drew rb s p3 e) := Lib.hid (HR6.out.to p3 _ HZ3.out)
      have HB7 : Hid (Blk (w5.setCell ⟨rb, 1, none⟩ (.int .i64 ((p2 : Int) + (u.length : Int)))).drew b5 130 #[.string ⟨u.toArray⟩, .int .u8 0, .slice none 0 0]) := Lib.hid (Blk.far HB6.out (p := ⟨rb, 1, none⟩) hne2 _)
      have HK7 : Hid (Kp w.heap.size (· = rb) w (w5.setCell ⟨rb, 1, none⟩ (.int .i64 ((p2 : Int) + (u.length : Int)))).drew) := Lib.hid (HK6.out.rdr _).drew
      clear c0 c1 f1 d0 d1 d2
      generalize (w5.setCell ⟨rb, 1, none⟩ (.int .i64 ((p2 : Int) + (u.length : Int)))).drew = w6 at HR7 HB7 HK7 ⊢
      have c0 := HR7.out.c0
      have c1 := HR7.out.c1
      go_quiet (fail)
      have HR8 : Hid (Rdr (w6.drewN nq) rb s p3 e) := Lib.hid HR7.out
      have HB8 : Hid (Blk (w6.drewN nq) b5 130 #[.string ⟨u.toArray⟩, .int .u8 0, .slice none 0 0]) := Lib.hid HB7.out
      have HK8 : Hid (Kp w.heap.size (· = rb) w (w6.drewN nq)) := Lib.hid (HK7.out.drewN _)
      clear c0 c1
      generalize w6.drewN nq = w7 at HR8 HB8 HK8 ⊢
      have d0 := HB8.out.cell 0
      have d1 := HB8.out.cell 1
      have d2 := HB8.out.cell 2
      simp only [List.getElem?_toArray, List.getElem?_cons_zero, List.getElem?_cons_succ] at d0 d1 d2
      by_cases hu0 : u = []
      · subst hu0
        have HO : Hid (O = .err 4) := Lib.hid (by have := HVB.out; rwa [if_pos (show ([] : List UInt8).length = 0 from rfl)] at this)
        clear HVB
        go_wp2
        go_ret2
        rw [HO.out]
        exact ⟨_, rfl, ⟨p3, HR8.out⟩, HK8.out⟩
      · have hui : u.isEmpty = false := by cases u with | nil => exact absurd rfl hu0 | cons => rfl
        have HU := Lib.hid hu0
        have HVC := Lib.hid (HVB.out)
        rw [if_neg (show ¬ u.length = 0 from fun h => hu0 (List.eq_nil_of_length_eq_zero h))] at HVC
        clear HVB hu0 hsl
        by_cases h1 : R.take 1 = [125]
        · have HO := Lib.hid (HVC.out)
          rw [clsEnd_1 h1] at HO
          have H1 : Hid (∀ w, Calls Tryd.prog 64 #[.string ⟨R.toArray⟩, .string ⟨#[125]⟩] w fun x w' => x = .returned (.bool true) ∧ w = w') := Lib.hid (prefix_t R [125] h1)
          clear HVC
          have c1 := HR8.out.c1
          have f1 := Blk.frozen HR8.out 1
          go_wp2_with fail
          refine (H1.out _).mono ?_
          rintro x w8 ⟨rfl, rfl⟩
          go_wp2
          go_ret2
          have hlt3 : p3 < s.length := by
            rcases Nat.lt_or_ge p3 s.length with h | h
            · exact h
            · rw [HRR.out, List.drop_eq_nil_of_le h] at h1; cases h1
          rw [HO.out]
          exact ⟨_, fun _ => False, p3 + 1, rfl, Pcs.var (E := encP) u 0 HU.out (by omega) (fun h => absurd h (by omega)) .nil .nil, fun _ h => h.elim, by rw [HRR.out, List.drop_drop], by omega, by omega, HR8.out.to _ _ (by omega), HK8.out.rdr _⟩
        · have H1 : Hid (∀ w, Calls Tryd.prog 64 #[.string ⟨R.toArray⟩, .string ⟨#[125]⟩] w fun x w' => x = .returned (.bool false) ∧ w = w') := Lib.hid (prefix_f R [125] h1)
          by_cases h2 : R.take 2 = [58, 45] ∨ R.take 2 = [58, 43]
          · obtain ⟨o, b1, ho, hRo, H45, H43⟩ : ∃ (o : UInt8) (b1 : Bool), (o = 45 ∨ o = 43) ∧ R.take 2 = [58, o] ∧
                Hid (∀ w, Calls Tryd.prog 64 #[.string ⟨R.toArray⟩, .string ⟨#[58, 45]⟩] w fun x w' => x = .returned (.bool b1) ∧ w = w') ∧
                Hid (b1 = false → ∀ w, Calls Tryd.prog 64 #[.string ⟨R.toArray⟩, .string ⟨#[58, 43]⟩] w fun x w' => x = .returned (.bool true) ∧ w = w') := by
              by_cases h3 : R.take 2 = [58, 45]
              · exact ⟨45, true, .inl rfl, h3, Lib.hid (prefix_t R [58, 45] h3), Lib.hid (fun h => by cases h)⟩
              · have h4 := h2.resolve_left h3
                exact ⟨43, false, .inr rfl, h4, Lib.hid (prefix_f R [58, 45] h3), Lib.hid (fun _ => prefix_t R [58, 43] h4)⟩
            have HO := Lib.hid HVC.out
            rw [clsEnd_2 ho hRo] at HO
            have hRl : 2 ≤ R.length := by have := congrArg List.length hRo; rw [List.length_take] at this; simp at this; omega
            have hidx : ∀ wx, (Instr.index 9 (.string ⟨R.toArray⟩) (.int .i64 1)).run Tryd.prog wx = .ok (.int .u8 o.toNat) wx := fun wx => by
              have := run_index_list (P := Tryd.prog) Tryd.underlying9 R 1 (by omega) wx
              rw [show R.getD 1 0 = o by match R, hRo with | c :: d :: r, hRo => (have h1 : c = 58 ∧ d = o := by simpa using hRo); exact h1.2] at this
              exact this
            obtain ⟨p5, hp5⟩ : ∃ p5, p5 = p3 + 2 := ⟨_, rfl⟩
            have hp5l : p5 ≤ s.length := by rw [HRR.out, List.length_drop] at hRl; omega
            have hR5 : R.drop 2 = s.drop p5 := by rw [HRR.out, List.drop_drop, hp5]
            rw [hR5] at HO
            have HRD : Hid (∀ O w, Rdr w rb s p5 e → Rd e .braces (s.drop p5) O → Calls Tryd.prog 31 #[.pointer (some ⟨rb, 0, none⟩), .int .i64 1] w (ReadPost rb s e p5 O w)) :=
              Lib.hid (fun O w h1 h2 => HR0.out (s.length - p5) (by have := HM.out; omega) .braces s p5 rb e O w hs hp5l (Nat.le_refl _) h1 h2)
            have hpp5 : p < p5 := by omega
            have hz5 : (p3 : Int) + 2 = p5 := by omega
            have HR9 := Lib.hid (Rdr.to (Blk.far HR8.out (p := ⟨b5, 1, none⟩) hne (.int .u8 o.toNat)) p5 _ hz5)
            have HB9 : Hid (Blk ((w7.setCell ⟨b5, 1, none⟩ (.int .u8 o.toNat)).setCell ⟨rb, 1, none⟩ (.int .i64 ((p3 : Int) + 2))) b5 130 #[.string ⟨u.toArray⟩, .int .u8 o.toNat, .slice none 0 0]) := Lib.hid ((HB8.out.set_ 1 (.int .u8 o.toNat)).far (p := ⟨rb, 1, none⟩) hne2 _)
            have HK9 : Hid (Kp w.heap.size (· = rb) w ((w7.setCell ⟨b5, 1, none⟩ (.int .u8 o.toNat)).setCell ⟨rb, 1, none⟩ (.int .i64 ((p3 : Int) + 2)))) := Lib.hid ((Kp.setCell (X := (· = rb)) (p := ⟨b5, 1, none⟩) HK8.out (.inl hbn) _).rdr _)
            clear HVC h1 h2 ho hRo hRl hR5 hp5 hz5
            have c1 := HR8.out.c1
            have f1 := Blk.frozen HR8.out 1
            have g1 := HB8.out.frozen 1
            go_wp2_with fail
            refine (H1.out _).mono ?_
            rintro x w8 ⟨rfl, rfl⟩
            go_wp2_with fail
            refine (H45.out _).mono ?_
            rintro x w8 ⟨rfl, rfl⟩
            cases b1
            case' false =>
              go_wp2_with fail
              refine (H43.out (by first | trivial | rfl) _).mono ?_
              rintro x w8 ⟨rfl, rfl⟩
              go_wp2_with fail
            case' true =>
              go_wp2_with fail
            all_goals
              rcases HO.out with ⟨t, r', hrd, hO⟩ | ⟨no, hrd, hO⟩
              · refine (HRD.out _ _ HR9.out hrd).mono ?_
                rintro x w10 ⟨v, n, q, rfl, hP, hnq, hql, hr', hR10, hK10⟩
                have hsz := hK10.size
                have hsz9 := HK9.out.size
                have HB10 := Lib.hid (hK10.blk HB9.out HB9.out.lt hne2)
                have HK11 := Lib.hid (HK9.out.trans (hK10.mono HK9.out.size (fun _ _ h => h)))
                obtain ⟨A, c, S2, rfl, hpc, hS2⟩ := PL.part hP u o HU.out (by omega)
                have hb9 := HB9.out.lt
                have HPC := Lib.hid (hpc.kept (w' := w10.setCell ⟨b5, 2, none⟩ (.slice A n c)) (fun p hp => World.cell?_setCell_other w10 ⟨b5, 2, none⟩ p _ (fun e => by subst e; have := (hS2 _ hp).1; simp only at this; omega)))
                have HS2 : Hid (∀ b, S2 b → w.heap.size ≤ b ∧ b < (w10.setCell ⟨b5, 2, none⟩ (.slice A n c)).heap.size) := Lib.hid (fun b hb => ⟨by have := (hS2 b hb).1; omega, by have := (hS2 b hb).2; simpa using this⟩)
                have HR11 : Hid (Rdr (w10.setCell ⟨b5, 2, none⟩ (.slice A n c)) rb s q e) := Lib.hid (Blk.far hR10 (p := ⟨b5, 2, none⟩) hne _)
                have HK12 := Lib.hid (Kp.setCell (X := (· = rb)) (p := ⟨b5, 2, none⟩) HK11.out (.inl hbn) (.slice A n c))
                have HX : Hid (r' = s.drop q ∧ p < q ∧ q ≤ s.length) := Lib.hid ⟨hr', by omega, hql⟩
                have HO2 := Lib.hid hO
                clear hO hP hnq hql hr' hR10 hK10 hsz hsz9 hpc hS2 hb9 hrd
                have e0 := HB10.out.cell 0
                have e1 := HB10.out.cell 1
                have e2 := HB10.out.cell 2
                have g2 := HB10.out.frozen 2
                simp only [List.getElem?_toArray, List.getElem?_cons_zero, List.getElem?_cons_succ] at e0 e1 e2
                go_wp2
                go_ret2
                rw [HO2.out]
                exact ⟨_, S2, q, rfl, HPC.out, HS2.out, HX.out.1, HX.out.2.1, HX.out.2.2, HR11.out, HK12.out⟩
              · refine (HRD.out _ _ HR9.out hrd).mono ?_
                rintro x w10 ⟨rfl, ⟨q, hR10⟩, hK10⟩
                have HB10 := Lib.hid (hK10.blk HB9.out HB9.out.lt hne2)
                have HK11 := Lib.hid (HK9.out.trans (hK10.mono HK9.out.size (fun _ _ h => h)))
                have HR11 : Hid (Rdr (w10.setCell ⟨b5, 2, none⟩ (.slice none 0 0)) rb s q e) := Lib.hid (Blk.far hR10 (p := ⟨b5, 2, none⟩) hne _)
                have HK12 := Lib.hid (Kp.setCell (X := (· = rb)) (p := ⟨b5, 2, none⟩) HK11.out (.inl hbn) (.slice none 0 0))
                have HO2 := Lib.hid hO
                clear hO hR10 hK10 hrd
                have e0 := HB10.out.cell 0
                have e1 := HB10.out.cell 1
                have e2 := HB10.out.cell 2
                have g2 := HB10.out.frozen 2
                simp only [List.getElem?_toArray, List.getElem?_cons_zero, List.getElem?_cons_succ] at e0 e1 e2
                go_wp2
                go_ret2
                rw [HO2.out]
                exact ⟨_, rfl, ⟨q, HR11.out⟩, HK12.out⟩
          · have h23 := not_or.1 h2
            have HO := Lib.hid HVC.out
            rw [clsEnd_3 h1 h23.1 h23.2] at HO
            have H45 : Hid (∀ w, Calls Tryd.prog 64 #[.string ⟨R.toArray⟩, .string ⟨#[58, 45]⟩] w fun x w' => x = .returned (.bool false) ∧ w = w') := Lib.hid (prefix_f R [58, 45] h23.1)
            have H43 : Hid (∀ w, Calls Tryd.prog 64 #[.string ⟨R.toArray⟩, .string ⟨#[58, 43]⟩] w fun x w' => x = .returned (.bool false) ∧ w = w') := Lib.hid (prefix_f R [58, 43] h23.2)
            clear HVC h1 h2 h23
            go_wp2_with fail
            refine (H1.out _).mono ?_
            rintro x w8 ⟨rfl, rfl⟩
            go_wp2_with fail
            refine (H45.out _).mono ?_
            rintro x w8 ⟨rfl, rfl⟩
            go_wp2_with fail
            refine (H43.out _).mono ?_
            rintro x w8 ⟨rfl, rfl⟩
            go_wp2
            go_ret2
            rw [HO.out]
            exact ⟨_, rfl, ⟨p3, HR8.out⟩, HK8.out⟩
    · have hbf : ((s.drop p1).take 1 == [123]) = false := by rw [beq_eq_false_iff_ne]; exact hb
      have HC : Hid (∀ w, Calls Tryd.prog 64 #[.string ⟨(s.drop p1).toArray⟩, .string ⟨#[123]⟩] w fun x w' => x = .returned (.bool false) ∧ w = w') := Lib.hid (by
        intro w; have := HH.out [123] w rfl; rw [hbf] at this; exact this)
      have HO : Hid (O = .ok (.lit [36] .nil) (s.drop p1)) := Lib.hid (by
        cases hd : s.drop p1 with
        | nil => rw [hd] at hv; exact hv
        | cons c q =>
          rw [hd] at hv hb
          have : ¬ c = 123 := fun e => hb (by rw [e]; rfl)
          simp only [if_neg this] at hv
          exact hv)
      have hsl := fun wx => run_slice_from_list Tryd.underlying9 s .i64 (p1 : Int) p1 rfl hp1l wx
      clear hv h0 hb hbf HH
      go_enter Tryd.func50, Tryd.ntmps50
      go_wp2_with fail
      refine (HNM.out _ HR1.out).mono ?_
      rintro x w2 ⟨mm, rfl, hw⟩
      have HR2 : Hid (Rdr w2 rb s p1 e) := Lib.hid (by rw [hw]; exact HR1.out)
      have HK2 : Hid (Kp w.heap.size (· = rb) w w2) := Lib.hid (by rw [hw]; exact HK1.out.drewN _)
      clear hw
      have c1 := HR2.out.c1
      have c0 := HR2.out.c0
      go_wp2_with fail
      go_quiet (exact Calls.quiet_of ((HC.out _).mono (by rintro e w' ⟨rfl, rfl⟩; exact ⟨rfl, 0, rfl⟩)))
      go_wp2
      go_ret2
      rw [HO.out]
      exact ⟨_, fun _ => False, p1, rfl, Pcs.one_lit _ _ [36], fun _ h => h.elim, rfl, hpp, hp1l, HR2.out, HK2.out.drewN _⟩
end Exp
end Go.Proofs.YtnmnhnhlggbijaaDoor
