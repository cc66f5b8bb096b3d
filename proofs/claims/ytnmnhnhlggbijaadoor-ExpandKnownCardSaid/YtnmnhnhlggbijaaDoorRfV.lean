/-
  The walk of the reference's (*reader).variable at this seat's translation, for any text from a $ on.
-/
import Derived.Test.YtnmnhnhlggbijaaDoorRfW
import Derived.Test.YtnmnhnhlggbijaaDoorExpV
import Derived.StillTailTactics
namespace Go.Proofs.YtnmnhnhlggbijaaDoor
open Go.RowKit
namespace Exp
open T

/-- What the reference's reading of a text leaves (d bytes of the end are not yet behind the reader). -/
def RReadPost (rb : Nat) (s : List UInt8) (e : UInt8) (a d : Nat) (acc : List (List UInt8)) (O : Out) (w : World) (x : Ending) (w' : World) : Prop :=
  match O with
  | .ok t r => ∃ v n q nv', x = .returned v ∧ RL w' w.heap.size v t n ∧ n + a ≤ q ∧ q + d ≤ s.length ∧ r = s.drop (q + d) ∧ RdrR w' rb s q e 0 nv' ∧ Own9 w' rb nv' (mets acc t.nms) ∧ Kq rb w w'
  | .err no => ∃ v t n q nv', x = .returned v ∧ RL w' w.heap.size v t n ∧ n + a ≤ s.length ∧ s.length ≤ q ∧ q + d ≤ s.length + 1 ∧ RdrR w' rb s q e no nv' ∧ Kq rb w w'
/-- What the reference's variable leaves. -/
def RVarPost (rb : Nat) (s : List UInt8) (e : UInt8) (p : Nat) (acc : List (List UInt8)) (O : Out) (w : World) (x : Ending) (w' : World) : Prop :=
  match O with
  | .ok t r => ∃ (cs : List Value) (S : Nat → Prop) (q : Nat) (nv' : Value), x = .returned (.agg cs.toArray) ∧ Pcs encR w' S t cs 1 ∧ (∀ b, S b → w.heap.size ≤ b ∧ b < w'.heap.size ∧ NT w' b) ∧ r = s.drop q ∧ p < q ∧ q ≤ s.length ∧ RdrR w' rb s q e 0 nv' ∧ Own9 w' rb nv' (mets acc t.nms) ∧ Kq rb w w'
  | .err no => ∃ (cs : List Value) (S : Nat → Prop) (t : T) (q : Nat) (nv' : Value), x = .returned (.agg cs.toArray) ∧ Pcs encR w' S t cs 1 ∧ (∀ b, S b → w.heap.size ≤ b ∧ b < w'.heap.size ∧ NT w' b) ∧ s.length ≤ q ∧ q ≤ s.length + 1 ∧ RdrR w' rb s q e no nv' ∧ Kq rb w w'
def RBrC (m : Nat) : Prop := ∀ (s : List UInt8) (a rb : Nat) (e : UInt8) (acc : List (List UInt8)) (nv : Value) (O : Out) (w : World), s.length ≤ 1099511627776 → a ≤ s.length → s.length - a ≤ m → RdrR w rb s a e 0 nv → Own9 w rb nv acc → acc.length + (s.length - a) ≤ 2199023255552 → Rd e .braces (s.drop a) O →
  Calls Tryd.prog 23 #[.pointer (some ⟨rb, 0, none⟩), .bool true] w (RReadPost rb s e a 1 acc O w)
def RVarC (m : Nat) : Prop := ∀ (s : List UInt8) (p rb : Nat) (e : UInt8) (acc : List (List UInt8)) (nv : Value) (O : Out) (w : World), s.length ≤ 1099511627776 → p < s.length → s.length - p ≤ m → s.getD p 0 = 36 → RdrR w rb s p e 0 nv → Own9 w rb nv acc → acc.length + (s.length - p) ≤ 2199023255552 → VRd e (s.drop (p + 1)) O →
  Calls Tryd.prog 38 #[.pointer (some ⟨rb, 0, none⟩)] w (RVarPost rb s e p acc O w)
theorem blk_of {w : World} {b : Nat} {cs : Array Value} (h : Blk w b 74 cs) : w.heap[b]? = some (.cells cs 74 (0, 0)) := h
theorem rlen {R : List UInt8} {c : UInt8} {q : List UInt8} (h : R = c :: q) : 0 < R.length := by rw [h]; simp
theorem ridx {R : List UInt8} (k : Nat) (h : k < R.length) (w : World) : (Instr.index 9 (.string ⟨R.toArray⟩) (.int .i64 (k : Int))).run Tryd.prog w = .ok (.int .u8 (R.getD k 0).toNat) w := run_index_list Tryd.underlying9 R k h w
theorem Own9.kq_alloc {w : World} {B : Nat} {v : Value} {l : List (List UInt8)} (h : Own9 w B v l) (o : Obj) : Own9 (w.alloc o) B v l := World.ownsRow.alloc h o
/-- Names are kept where all but a piece's block and the reader's place are. -/
theorem Own9.far {w : World} {B b : Nat} {v : Value} {l : List (List UInt8)} {t : TypeId} {cs : Array Value} (h : Own9 w B v l) (hb : Blk w b t cs) (ht : 9 ≠ t) {p : Addr} (hp : p.block = b) (u : Value) : Own9 (w.setCell p u) B v l :=
  own_at h fun k hk => Below.heap_setCell w p u k (fun e => own_blk_ne h hb ht (by rw [← hp, ← e]; exact hk))
/-- A piece's cells, all stored. -/
abbrev st4 (w : World) (b : Nat) (a0 a1 a2 a3 : Value) : World := ((((w.setCell ⟨b, 0, none⟩ a0).setCell ⟨b, 1, none⟩ a1).setCell ⟨b, 2, none⟩ a2).setCell ⟨b, 3, none⟩ a3)
section
variable {w w0 : World} {b rb p no : Nat} {z0 z1 z2 z3 a0 a1 a2 a3 nv : Value} {s : List UInt8} {e : UInt8} {acc : List (List UInt8)}
theorem blk_set4 (h : Blk w b 74 #[z0, z1, z2, z3]) : Blk (st4 w b a0 a1 a2 a3) b 74 #[a0, a1, a2, a3] := by
  have h0 : Blk (w.setCell ⟨b, 0, none⟩ a0) b 74 #[a0, z1, z2, z3] := h.set_ 0 a0
  have h1 : Blk ((w.setCell ⟨b, 0, none⟩ a0).setCell ⟨b, 1, none⟩ a1) b 74 #[a0, a1, z2, z3] := h0.set_ 1 a1
  have h2 : Blk (((w.setCell ⟨b, 0, none⟩ a0).setCell ⟨b, 1, none⟩ a1).setCell ⟨b, 2, none⟩ a2) b 74 #[a0, a1, a2, z3] := h1.set_ 2 a2
  exact h2.set_ 3 a3
theorem blk_far4 {g : Nat} {t : TypeId} {cs : Array Value} (h : Blk w g t cs) (hg : g ≠ b) : Blk (st4 w b a0 a1 a2 a3) g t cs :=
  Blk.far (Blk.far (Blk.far (Blk.far h (p := ⟨b, 0, none⟩) hg _) (p := ⟨b, 1, none⟩) hg _) (p := ⟨b, 2, none⟩) hg _) (p := ⟨b, 3, none⟩) hg _
theorem heap_set4 (k : Nat) (hk : k ≠ b) : (st4 w b a0 a1 a2 a3).heap[k]? = w.heap[k]? :=
  (Below.heap_setCell _ ⟨b, 3, none⟩ _ k hk).trans ((Below.heap_setCell _ ⟨b, 2, none⟩ _ k hk).trans ((Below.heap_setCell _ ⟨b, 1, none⟩ _ k hk).trans (Below.heap_setCell _ ⟨b, 0, none⟩ _ k hk)))
theorem own9_set4 {B : Nat} {cs : Array Value} (h : Own9 w B nv acc) (hb : Blk w b 74 cs) : Own9 (st4 w b a0 a1 a2 a3) B nv acc :=
  own_at h fun k hk => heap_set4 k (fun e => own_blk_ne h hb (by decide) (by rw [← e]; exact hk))
theorem kq_set4 (h : Kq rb w0 w) (hb : w0.heap.size ≤ b) : Kq rb w0 (st4 w b a0 a1 a2 a3) :=
  (((h.setCell (p := ⟨b, 0, none⟩) (.inl hb) a0).setCell (p := ⟨b, 1, none⟩) (.inl hb) a1).setCell (p := ⟨b, 2, none⟩) (.inl hb) a2).setCell (p := ⟨b, 3, none⟩) (.inl hb) a3
theorem size_set4 : (st4 w b a0 a1 a2 a3).heap.size = w.heap.size := by simp
theorem pcs_set4 {S : Nat → Prop} {t : T} {cs : List Value} {n B : Nat} (h : Pcs encR w S t cs n) (hS : ∀ k, S k → B ≤ k ∧ k < w.heap.size ∧ NT w k) (hb : b < B) : Pcs encR (st4 w b a0 a1 a2 a3) S t cs n ∧ ∀ k, S k → B ≤ k ∧ k < (st4 w b a0 a1 a2 a3).heap.size ∧ NT (st4 w b a0 a1 a2 a3) k := by
  refine ⟨h.kept fun p hp => World.cell?_of_block (heap_set4 _ (by have := (hS _ hp).1; omega)), fun k hk => ?_⟩
  obtain ⟨h1, h2, h3⟩ := hS k hk
  exact ⟨h1, by rw [size_set4]; exact h2, h3.of_eq (heap_set4 _ (by omega))⟩
end
theorem Pcs.one_varR (w : World) (S : Nat → Prop) (u : List UInt8) (h : u ≠ []) : Pcs encR w S (.var u 0 .nil .nil) (varR u 0 none 0 0) 1 := by
  have := Pcs.var (E := encR) (w := w) (S := S) u 0 (A := none) (m := 0) (c := 0) h (by omega) (fun h => absurd h (by omega)) .nil .nil
  simpa [encR] using this
theorem Pcs.one_zeroR (w : World) (S : Nat → Prop) : Pcs encR w S (lits [] .nil) [.string ⟨#[]⟩, .string ⟨#[]⟩, .int .u8 0, .slice none 0 0] 1 := Pcs.one_litR w S []
theorem infoP : (Tryd.prog.info? 74).map (·.size) = some 4 := by kernel_rfl
theorem idx0 {R : List UInt8} (h : 0 < R.length) (w : World) : (Instr.index 9 (.string ⟨R.toArray⟩) (.int .i64 0)).run Tryd.prog w = .ok (.int .u8 (R.getD 0 0).toNat) w := run_index_list Tryd.underlying9 R 0 h w
theorem idx1 {R : List UInt8} (h : 1 < R.length) (w : World) : (Instr.index 9 (.string ⟨R.toArray⟩) (.int .i64 1)).run Tryd.prog w = .ok (.int .u8 (R.getD 1 0).toNat) w := run_index_list Tryd.underlying9 R 1 h w
theorem take1 {R : List UInt8} {c : UInt8} (h : R.take 1 = [c]) : 0 < R.length ∧ R.getD 0 0 = c := by cases R with | nil => cases h | cons d r => exact ⟨by simp, by simpa using h⟩
theorem take2 {R : List UInt8} {c d : UInt8} (h : R.take 2 = [c, d]) : 1 < R.length ∧ R.getD 0 0 = c ∧ R.getD 1 0 = d := by
  match R, h with
  | [], h => cases h
  | [x], h => cases h
  | x :: y :: r, h =>
    have : x = c ∧ y = d := by simpa using h
    exact ⟨by simp, by simpa using this.1, by simpa using this.2⟩
theorem untake1 {R : List UInt8} {c : UInt8} (h0 : 0 < R.length) (h : R.take 1 ≠ [c]) : R.getD 0 0 ≠ c := by cases R with | nil => cases h0 | cons d r => intro e; exact h (by simpa using e)
theorem untake2 {R : List UInt8} {c d : UInt8} (h0 : 1 < R.length) (h : R.take 2 ≠ [c, d]) (hc : R.getD 0 0 = c) : R.getD 1 0 ≠ d := by
  match R, h0 with
  | x :: y :: r, _ => intro e; exact h (by simp at hc e ⊢; exact ⟨hc, e⟩)
theorem tailV {u : List UInt8} {e o : UInt8} {R : List UInt8} {O : Out} (ho : o = 45 ∨ o = 43) (h : R.take 2 = [58, o])
    (hv : match clsEnd u R with | .fin o => O = o | .lit p r' => O = .ok p r' | .quo _ => False | .var n o q => (∃ t r', Rd e .braces q (.ok t r') ∧ O = .ok (.var n o t .nil) r') ∨ ∃ no, Rd e .braces q (.err no) ∧ O = .err no) :
    (∃ t r', Rd e .braces (R.drop 2) (.ok t r') ∧ O = .ok (.var u o t .nil) r') ∨ ∃ no, Rd e .braces (R.drop 2) (.err no) ∧ O = .err no := by rw [clsEnd_2 ho h] at hv; exact hv
set_option maxHeartbeats 8000000 in
set_option maxRecDepth 100000 in
theorem rvar_step (m : Nat) (hR : ∀ m', m' < m → RBrC m') : RVarC m := by
  intro s p rb e acc nv O w hs hp hm h36 hr ho hal hv
  obtain ⟨p1, hp1⟩ : ∃ p1, p1 = p + 1 := ⟨_, rfl⟩
  rw [← hp1] at hv
  have hrl := Blk.lt hr
  have hne : ¬ rb = w.heap.size := by omega
  have hne2 : ¬ w.heap.size = rb := by omega
  have hp1l : p1 ≤ s.length := by omega
  have HR0 : Hid (RdrR (w.alloc (.cells #[.string ⟨#[]⟩, .string ⟨#[]⟩, .int .u8 0, .slice none 0 0] 74)) rb s p e 0 nv) := Lib.hid (Blk.alloc hr _)
  have HB0 : Hid (Blk (w.alloc (.cells #[.string ⟨#[]⟩, .string ⟨#[]⟩, .int .u8 0, .slice none 0 0] 74)) w.heap.size 74 #[.string ⟨#[]⟩, .string ⟨#[]⟩, .int .u8 0, .slice none 0 0]) := Lib.hid (Blk.new w _ _)
  have HO0 : Hid (Own9 (w.alloc (.cells #[.string ⟨#[]⟩, .string ⟨#[]⟩, .int .u8 0, .slice none 0 0] 74)) rb nv acc) := Lib.hid (World.ownsRow.alloc ho _)
  have HK0 : Hid (Kq rb w (w.alloc (.cells #[.string ⟨#[]⟩, .string ⟨#[]⟩, .int .u8 0, .slice none 0 0] 74))) := Lib.hid ((Kq.refl rb w).alloc _)
  have HBR := Lib.hid hR
  have HM : Hid (s.length - p ≤ m) := Lib.hid hm
  have HAL := Lib.hid hal
  have HP1 := Lib.hid hp1
  have hpp1 : p < p1 := by omega
  have hi1 : IntKind.i64.wrap ((p : Int) + 1) = (p1 : Int) := by rw [IntWalk.i64_in _ (by omega)]; omega
  have HI1 := Lib.hid hi1
  have hsl := fun wx => run_slice_from_list Tryd.underlying9 s .i64 (p1 : Int) p1 rfl hp1l wx
  obtain ⟨R1, hR1⟩ : ∃ R1, R1 = s.drop p1 := ⟨_, rfl⟩
  have HR1 := Lib.hid hR1
  rw [← hR1] at hv hsl
  have hR1l : R1.length = s.length - p1 := by rw [hR1, List.length_drop]
  have HR1L := Lib.hid hR1l
  have HN1 := Lib.hid (nameR_any R1 (by omega))
  have HHS := Lib.hid hs
  have HNL := Lib.hid (nl_le 0 R1)
  have HNN := Lib.hid (name_len R1)
  have HNE := Lib.hid (@name_ne R1)
  have HNT : Hid (name R1 = R1.take (nl 0 R1)) := Lib.hid rfl
  clear hR hr ho hal hm hp1 hR1 hR1l
  unfold VRd clsVar at hv
  have c0 := RdrR.c0 HR0.out
  have c1 := RdrR.c1 HR0.out
  go_enter Tryd.func38, Tryd.ntmps38
  go_wp2_with fail
  generalize w.alloc (.cells #[.string ⟨#[]⟩, .string ⟨#[]⟩, .int .u8 0, .slice none 0 0] 74) = w1 at HR0 HB0 HO0 HK0 c0 c1 ⊢
  go_quiet (fail)
  have HR : Hid (RdrR (w1.drewN nq) rb s p e 0 nv) := Lib.hid HR0.out
  have HB2 : Hid (Blk (w1.drewN nq) w.heap.size 74 #[.string ⟨#[]⟩, .string ⟨#[]⟩, .int .u8 0, .slice none 0 0]) := Lib.hid HB0.out
  have HO : Hid (Own9 (w1.drewN nq) rb nv acc) := Lib.hid HO0.out
  have HK : Hid (Kq rb w (w1.drewN nq)) := Lib.hid (HK0.out.drewN _)
  clear HR0 HB0 HO0 HK0 c0 c1 hi1 hsl
  generalize w1.drewN nq = w2 at HR HB2 HO HK ⊢
  go_wp2_with fail
  refine (HN1.out _).mono ?_
  rintro x w' ⟨rfl, rfl⟩
  obtain ⟨n1, hn1⟩ : ∃ n1, n1 = nl 0 R1 := ⟨_, rfl⟩
  rw [← hn1] at hv HNL HNN HNE HNT ⊢
  clear HN1
  by_cases h0 : n1 ≠ 0
  · rw [if_pos h0] at hv
    simp only at hv
    have HU := Lib.hid (HNE.out h0)
    obtain ⟨u, hu⟩ : ∃ u, u = name R1 := ⟨_, rfl⟩
    rw [← hu] at hv HU HNN HNT
    have HOO := Lib.hid hv
    have HN1 := Lib.hid hn1
    have hn1l : n1 ≤ R1.length := HNL.out
    have hslu := fun wx => run_slice_to_list Tryd.underlying9 R1 .i64 (n1 : Int) n1 rfl hn1l wx
    rw [← HNT.out] at hslu
    have hql : p1 + n1 ≤ s.length := by have := HR1L.out; omega
    have HMET := Lib.hid (met_any s p rb e nv acc u w2 HR.out HO.out (by have := HAL.out; omega))
    have b0 : decide (0 < (n1 : Int)) = true := by rw [decide_eq_true_iff]; omega
    have b0' : 0 < n1 := by omega
    have HXQ : Hid (p < p1 + n1 ∧ s.drop (p1 + n1) = R1.drop n1) := Lib.hid ⟨by omega, by rw [HR1.out, List.drop_drop]⟩
    have HZ : Hid ((p : Int) + 1 + (n1 : Int) = ((p1 + n1 : Nat) : Int)) := Lib.hid (by have := HP1.out; omega)
    clear hv h0 hn1 hu h36
    go_wp2_with fail
    refine HMET.out.mono ?_
    rintro x w3 ⟨rfl, nv3, h1, h2, h3⟩
    have HR3 := Lib.hid h1
    have HO3 := Lib.hid h2
    have HB3 := Lib.hid (h3.blk HB2.out hne2 (by decide))
    have HK3 := Lib.hid (HK.out.trans h3)
    clear h1 h2 h3
    have c1 := RdrR.c1 HR3.out
    have f1 := Blk.frozen HR3.out 1
    have g := blk_of HB3.out
    have d0 := HB3.out.cell 0
    have d1 := HB3.out.cell 1
    have d2 := HB3.out.cell 2
    have d3 := HB3.out.cell 3
    have g0 := HB3.out.frozen 0
    have g1 := HB3.out.frozen 1
    have g2 := HB3.out.frozen 2
    have g3 := HB3.out.frozen 3
    simp only [List.getElem?_toArray, List.getElem?_cons_zero, List.getElem?_cons_succ] at d0 d1 d2 d3
    clear g
    go_wp2_with fail
    refine bodyPost_ret (results_row rfl _ _ w.heap.size 74 #[.string ⟨#[]⟩, .string ⟨u.toArray⟩, .int .u8 0, .slice none 0 0] (0, 0) _ rfl (blk_set4 (HB3.out.far (p := ⟨rb, 1, none⟩) hne2 _)) Tryd.underlying74 rfl infoP) rfl ?_
    rw [HOO.out]
    exact ⟨varR u 0 none 0 0, fun _ => False, p1 + n1, nv3, rfl, Pcs.one_varR _ _ u HU.out, fun _ h => h.elim, HXQ.out.2.symm, HXQ.out.1, hql, blk_far4 (HR3.out.to (p1 + n1) _ HZ.out) hne, own9_set4 (Own9.far HO3.out HR3.out (by decide) (p := ⟨rb, 1, none⟩) rfl _) (HB3.out.far (p := ⟨rb, 1, none⟩) hne2 _), kq_set4 (HK3.out.setCell (p := ⟨rb, 1, none⟩) (.inr rfl) _) (Nat.le_refl _)⟩
  · rw [if_neg h0] at hv
    have b0 : decide (0 < (n1 : Int)) = false := by rw [decide_eq_false_iff_not]; omega
    have b0' : ¬ 0 < n1 := by omega
    clear hn1
    by_cases hb : R1.take 1 = [123]
    · have hl0 := (take1 hb).1
      have hx0 := idx0 hl0
      rw [(take1 hb).2] at hx0
      have q0 : ((R1.length : Int) == 0) = false := by rw [beq_eq_false_iff_ne]; omega
      obtain ⟨p2, hp2⟩ : ∃ p2, p2 = p1 + 1 := ⟨_, rfl⟩
      have hp2l : p2 ≤ s.length := by have := HR1L.out; omega
      have hR12 : R1.drop 1 = s.drop p2 := by rw [HR1.out, List.drop_drop, hp2]
      have hv2 : match clsBr (s.drop p2) with
          | .fin o => O = o
          | .lit p r' => O = .ok p r'
          | .quo _ => False
          | .var n o q => (∃ t r', Rd e .braces q (.ok t r') ∧ O = .ok (.var n o t .nil) r') ∨ ∃ no, Rd e .braces q (.err no) ∧ O = .err no := by
        cases hd : R1 with
        | nil => rw [hd] at hl0; cases hl0
        | cons c q =>
          rw [hd] at hv hb hR12
          have h1 : c = 123 := by simpa using hb
          simp only [if_pos h1] at hv
          rw [← hR12]
          exact hv
      have hsl2 := fun wx => run_slice_from_list Tryd.underlying9 R1 .i64 (1 : Int) 1 rfl hl0 wx
      rw [hR12] at hsl2
      have HN2 := Lib.hid (nameR_any (s.drop p2) (by have := HHS.out; simp; omega))
      have HNL2 := Lib.hid (nl_le 0 (s.drop p2))
      have HNN2 := Lib.hid (name_len (s.drop p2))
      unfold clsBr at hv2
      obtain ⟨u, hu⟩ : ∃ u, u = name (s.drop p2) := ⟨_, rfl⟩
      have HUT : Hid (u = (s.drop p2).take (nl 0 (s.drop p2))) := Lib.hid hu
      rw [← hu] at hv2 HNN2
      obtain ⟨n2, hn2⟩ : ∃ n2, n2 = nl 0 (s.drop p2) := ⟨_, rfl⟩
      rw [← hn2] at hv2 HNN2 HN2 HNL2 HUT
      obtain ⟨p3, hp3⟩ : ∃ p3, p3 = p2 + n2 := ⟨_, rfl⟩
      have hp3l : p3 ≤ s.length := by have h2 := HNL2.out; rw [List.length_drop] at h2; omega
      have hn2l : n2 ≤ 1099511627776 := by have := HHS.out; omega
      have HZ3 : Hid ((p : Int) + 2 + (n2 : Int) = (p3 : Int)) := Lib.hid (by have := HP1.out; omega)
      have hR13 : R1.drop (1 + n2) = s.drop p3 := by rw [HR1.out, List.drop_drop, hp3, hp2]; congr 1; omega
      have h1n : 1 + n2 ≤ R1.length := by have := HR1L.out; have := HNL2.out; rw [List.length_drop] at this; omega
      have hsl3 := fun wx => run_slice_from_list Tryd.underlying9 R1 .i64 (1 + (n2 : Int)) (1 + n2) (by omega) h1n wx
      rw [hR13] at hsl3
      have hsl4 := fun wx => run_slice_list Tryd.underlying9 R1 .i64 .i64 (1 : Int) (1 + (n2 : Int)) 1 (1 + n2) rfl (by omega) (by omega) h1n wx
      rw [show (R1.drop 1).take (1 + n2 - 1) = u by rw [hR12, HUT.out]; congr 1; omega] at hsl4
      obtain ⟨R3, hR3⟩ : ∃ R3, R3 = s.drop p3 := ⟨_, rfl⟩
      rw [List.drop_drop, ← hp3, ← hR3] at hv2
      rw [← hR3] at hsl3
      have HR3 := Lib.hid hR3
      have HPP : Hid (p < p3) := Lib.hid (by omega)
      have hi2 : IntKind.i64.wrap (1 + (n2 : Int)) = 1 + (n2 : Int) := IntWalk.i64_in _ (by omega)
      have HI2 := Lib.hid hi2
      clear hi2 hv h0 hb hl0 hR12 hR13 hp2 hp3 hu hR3 h36
      generalize s.drop p2 = R2 at hsl2 HN2 HUT HNL2 hn2
      by_cases hn20 : n2 = 0
      · rw [if_pos hn20] at hv2
        have HOO : Hid (O = .err 4) := Lib.hid hv2
        have HWR := Lib.hid (wrong_any s p rb e 4 0 nv w2 HR.out)
        have q2 : ((n2 : Int) == 0) = true := by rw [hn20]; rfl
        clear hv2 hn20 hn2
        go_wp2_with fail
        refine (HN2.out _).mono ?_
        rintro x w' ⟨rfl, rfl⟩
        go_wp2_with fail
        refine HWR.out.mono ?_
        rintro x w3 ⟨rfl, h1, h2⟩
        have HR3' : Hid (RdrR w3 rb s s.length e 4 nv) := Lib.hid h1
        have HB3 := Lib.hid (h2.blk HB2.out hne2 (by decide))
        have HK3 := Lib.hid (HK.out.trans h2)
        clear h1 h2
        have d0 := HB3.out.cell 0
        have d1 := HB3.out.cell 1
        have d2 := HB3.out.cell 2
        have d3 := HB3.out.cell 3
        have g0 := HB3.out.frozen 0
        have g1 := HB3.out.frozen 1
        have g2 := HB3.out.frozen 2
        have g3 := HB3.out.frozen 3
        simp only [List.getElem?_toArray, List.getElem?_cons_zero, List.getElem?_cons_succ] at d0 d1 d2 d3
        go_wp2_with fail
        refine bodyPost_ret (results_row rfl _ _ w.heap.size 74 #[.string ⟨#[]⟩, .string ⟨#[]⟩, .int .u8 0, .slice none 0 0] (0, 0) _ rfl (blk_set4 HB3.out) Tryd.underlying74 rfl infoP) rfl ?_
        rw [HOO.out]
        exact ⟨_, fun _ => False, _, s.length, nv, rfl, Pcs.one_zeroR _ _, fun _ h => h.elim, Nat.le_refl _, by omega, blk_far4 HR3'.out hne, kq_set4 HK3.out (Nat.le_refl _)⟩
      · rw [if_neg hn20] at hv2
        have q2 : ((n2 : Int) == 0) = false := by rw [beq_eq_false_iff_ne]; omega
        have HU : Hid (u ≠ []) := Lib.hid (fun e => by rw [e] at HNN2; have := HNN2.out; simp at this; omega)
        have HV := Lib.hid hv2
        have HMET := Lib.hid (met_any s p rb e nv acc u (w2.alloc (.cells #[.string ⟨#[]⟩, .string ⟨u.toArray⟩, .int .u8 0, .slice none 0 0] 74)) (Blk.alloc HR.out _) (World.ownsRow.alloc HO.out _) (by have := HAL.out; omega))
        have HB5 := Lib.hid (Blk.new w2 74 #[.string ⟨#[]⟩, .string ⟨u.toArray⟩, .int .u8 0, .slice none 0 0])
        have HB2a := Lib.hid (HB2.out.alloc (.cells #[.string ⟨#[]⟩, .string ⟨u.toArray⟩, .int .u8 0, .slice none 0 0] 74))
        have HKa := Lib.hid (HK.out.alloc (.cells #[.string ⟨#[]⟩, .string ⟨u.toArray⟩, .int .u8 0, .slice none 0 0] 74))
        have hb25 : ¬ w.heap.size = w2.heap.size := by have := HB2.out.lt; omega
        have hb52 : ¬ w2.heap.size = w.heap.size := by have := HB2.out.lt; omega
        have hrb5 : ¬ rb = w2.heap.size := by have := Blk.lt HR.out; omega
        have hrb5' : ¬ w2.heap.size = rb := by have := Blk.lt HR.out; omega
        have hb5l : w.heap.size ≤ w2.heap.size := by have := HB2.out.lt; omega
        have hlx : w.heap.size < w2.heap.size := HB2.out.lt
        clear hv2 hn20 hn2
        have hi2 := HI2.out
        go_wp2_with fail
        refine (HN2.out _).mono ?_
        rintro x w' ⟨rfl, rfl⟩
        go_wp2_with fail
        refine HMET.out.mono ?_
        rintro x w3 ⟨rfl, nv3, h1, h2, h3⟩
        have HR3' := Lib.hid h1
        have HO3 := Lib.hid h2
        have HB3 := Lib.hid (h3.blk HB2a.out hne2 (by decide))
        have HB53 := Lib.hid (h3.blk HB5.out hrb5' (by decide))
        have HK3 := Lib.hid (HKa.out.trans h3)
        have hsz3 : w2.heap.size < w3.heap.size := by have := h3.size; simp at this; omega
        clear h1 h2 h3 HB2a HB5 HKa HMET HR HO HK HB2
        generalize w2.heap.size = b5 at HB53 hb25 hb52 hrb5 hrb5' hb5l hlx hsz3 ⊢
        have c1 := RdrR.c1 HR3'.out
        have f1 := Blk.frozen HR3'.out 1
        have e0 := HB53.out.cell 0
        have e1 := HB53.out.cell 1
        have e2 := HB53.out.cell 2
        have e3 := HB53.out.cell 3
        have d0 := HB3.out.cell 0
        have d1 := HB3.out.cell 1
        have d2 := HB3.out.cell 2
        have d3 := HB3.out.cell 3
        have g0 := HB3.out.frozen 0
        have g1 := HB3.out.frozen 1
        have g2 := HB3.out.frozen 2
        have g3 := HB3.out.frozen 3
        simp only [List.getElem?_toArray, List.getElem?_cons_zero, List.getElem?_cons_succ] at d0 d1 d2 d3 e0 e1 e2 e3
        by_cases h1 : R3.take 1 = [125]
        · have hl3 := (take1 h1).1
          have hl3b : decide (0 < (R3.length : Int)) = true := by rw [decide_eq_true_iff]; omega
          have hx3 := idx0 hl3
          rw [(take1 h1).2] at hx3
          have HOO : Hid (O = .ok (.var u 0 .nil .nil) (R3.drop 1)) := Lib.hid (by have := HV.out; rwa [clsEnd_1 h1] at this)
          have HQ : Hid (p3 + 1 ≤ s.length) := Lib.hid (by rw [HR3.out, List.length_drop] at hl3; omega)
          clear h1
          go_wp2_with fail
          refine bodyPost_ret (results_row rfl _ _ w.heap.size 74 #[.string ⟨#[]⟩, .string ⟨u.toArray⟩, .int .u8 0, .slice none 0 0] (0, 0) _ rfl (blk_set4 ((HB3.out.far (p := ⟨rb, 1, none⟩) hne2 _).far (p := ⟨rb, 1, none⟩) hne2 _)) Tryd.underlying74 rfl infoP) rfl ?_
          rw [HOO.out]
          exact ⟨varR u 0 none 0 0, fun _ => False, p3 + 1, nv3, rfl, Pcs.one_varR _ _ u HU.out, fun _ h => h.elim, by rw [HR3.out, List.drop_drop], by have := HPP.out; omega, HQ.out, blk_far4 ((HR3'.out.to p3 _ HZ3.out).to (p3 + 1) _ (by have := HZ3.out; omega)) hne, own9_set4 (Own9.far (Own9.far HO3.out HR3'.out (by decide) (p := ⟨rb, 1, none⟩) rfl _) (HR3'.out.to p3 _ HZ3.out) (by decide) (p := ⟨rb, 1, none⟩) rfl _) ((HB3.out.far (p := ⟨rb, 1, none⟩) hne2 _).far (p := ⟨rb, 1, none⟩) hne2 _), kq_set4 ((HK3.out.setCell (p := ⟨rb, 1, none⟩) (.inr rfl) _).setCell (p := ⟨rb, 1, none⟩) (.inr rfl) _) (Nat.le_refl _)⟩
        · by_cases h2 : R3.take 2 = [58, 45] ∨ R3.take 2 = [58, 43]
          · obtain ⟨o, ho, hRo⟩ : ∃ o : UInt8, (o = 45 ∨ o = 43) ∧ R3.take 2 = [58, o] := by
              rcases h2 with h | h
              · exact ⟨45, .inl rfl, h⟩
              · exact ⟨43, .inr rfl, h⟩
            have HO5 := Lib.hid (tailV ho hRo HV.out)
            obtain ⟨hl1, hc0, hc1⟩ := take2 hRo
            have hl3 : 0 < R3.length := by omega
            have hl3b : decide (0 < (R3.length : Int)) = true := by rw [decide_eq_true_iff]; omega
            have hl2b : decide ((R3.length : Int) < 2) = false := by rw [decide_eq_false_iff_not]; omega
            have hx3 := idx0 hl3
            have hx4 := idx1 hl1
            rw [hc0] at hx3
            rw [hc1] at hx4
            obtain ⟨p5, hp5⟩ : ∃ p5, p5 = p3 + 2 := ⟨_, rfl⟩
            have hp5l : p5 ≤ s.length := by rw [HR3.out, List.length_drop] at hl1; omega
            have HR35 : Hid (R3.drop 2 = s.drop p5) := Lib.hid (by rw [HR3.out, List.drop_drop, hp5])
            rw [HR35.out] at HO5
            have HZ5 : Hid ((p : Int) + 2 + (n2 : Int) + 2 = (p5 : Int)) := Lib.hid (by have := HZ3.out; omega)
            have HP5 : Hid (p < p5) := Lib.hid (by have := HPP.out; omega)
            obtain ⟨b1, hb1⟩ : ∃ b1 : Bool, ((o.toNat : Int) != 45) = b1 := ⟨_, rfl⟩
            have hb2 : b1 = true → ((o.toNat : Int) != 43) = false := fun h => by
              rcases ho with rfl | rfl
              · rw [h] at hb1; cases hb1
              · rfl
            have HRW := Lib.hid (((HR3'.out.to p3 _ HZ3.out).far (p := ⟨b5, 2, none⟩) hrb5 (.int .u8 o.toNat)).set_ 1 (.int .i64 ((p : Int) + 2 + (n2 : Int) + 2)))
            obtain ⟨W, hW⟩ : ∃ W, W = ((w3.setCell ⟨rb, 1, none⟩ (.int .i64 ((p : Int) + 2 + (n2 : Int)))).setCell ⟨b5, 2, none⟩ (.int .u8 o.toNat)).setCell ⟨rb, 1, none⟩ (.int .i64 ((p : Int) + 2 + (n2 : Int) + 2)) := ⟨_, rfl⟩
            have HR1' := HR3'.out.to p3 _ HZ3.out
            have HB51 := HB53.out.far (p := ⟨rb, 1, none⟩) hrb5' (.int .i64 ((p : Int) + 2 + (n2 : Int)))
            have HR2' : RdrR _ rb s p3 e 0 nv3 := Blk.far HR1' (p := ⟨b5, 2, none⟩) hrb5 (.int .u8 o.toNat)
            have HRW : Hid (RdrR W rb s p5 e 0 nv3) := Lib.hid (by rw [hW]; exact HR2'.to p5 _ HZ5.out)
            have HB5W : Hid (Blk W b5 74 #[.string ⟨#[]⟩, .string ⟨u.toArray⟩, .int .u8 o.toNat, .slice none 0 0]) := Lib.hid (by rw [hW]; exact (HB51.set_ 2 (.int .u8 o.toNat)).far (p := ⟨rb, 1, none⟩) hrb5' _)
            have HB2W : Hid (Blk W w.heap.size 74 #[.string ⟨#[]⟩, .string ⟨#[]⟩, .int .u8 0, .slice none 0 0]) := Lib.hid (by rw [hW]; exact ((HB3.out.far (p := ⟨rb, 1, none⟩) hne2 _).far (p := ⟨b5, 2, none⟩) hb25 _).far (p := ⟨rb, 1, none⟩) hne2 _)
            have HOW : Hid (Own9 W rb nv3 (met acc u)) := Lib.hid (by rw [hW]; exact Own9.far (Own9.far (Own9.far HO3.out HR3'.out (by decide) (p := ⟨rb, 1, none⟩) rfl _) HB51 (by decide) (p := ⟨b5, 2, none⟩) rfl _) HR2' (by decide) (p := ⟨rb, 1, none⟩) rfl _)
            have HKW : Hid (Kq rb w W) := Lib.hid (by rw [hW]; exact ((HK3.out.setCell (p := ⟨rb, 1, none⟩) (.inr rfl) _).setCell (p := ⟨b5, 2, none⟩) (.inl hb5l) _).setCell (p := ⟨rb, 1, none⟩) (.inr rfl) _)
            have hWs : w3.heap.size = W.heap.size := by rw [hW]; simp
            have HHW := Lib.hid hW
            have HRD : Hid (∀ Ob, Rd e .braces (s.drop p5) Ob → Calls Tryd.prog 23 #[.pointer (some ⟨rb, 0, none⟩), .bool true] W (RReadPost rb s e p5 1 (met acc u) Ob W)) := Lib.hid (fun Ob hrd =>
              HBR.out (s.length - p5) (by have := HM.out; have := HP5.out; omega) s p5 rb e (met acc u) nv3 Ob W hs hp5l (Nat.le_refl _) HRW.out HOW.out (by have := met_len acc u; have := HAL.out; have := HP5.out; omega) hrd)
            have hb2W : w.heap.size < W.heap.size := by omega
            have hb5W : b5 < W.heap.size := by omega
            have hrbW : rb < W.heap.size := by omega
            have f2 := HB53.out.frozen 2
            clear ho hRo h2 hc0 hc1 hp5 h1 hl1 HR1' HB51 HR2' hW hWs
            have HDW : Hid (∀ y : World, y = W → True) := Lib.hid (fun _ _ => trivial)
            cases b1
            case' true =>
              have hb3 := hb2 rfl
            all_goals
              clear hb2
              go_wp2_with fail
              rw [← HHW.out]
              rcases HO5.out with ⟨t, r', hrd, hO⟩ | ⟨no, hrd, hO⟩
              · refine (HRD.out _ hrd).mono ?_
                rintro x w5 ⟨v, n, q, nv5, rfl, hRL, hnq, hql, hr', hR5, hO5, hK5⟩
                obtain ⟨A, c, S2, rfl, hpc, hS2⟩ := RL.part hRL u o HU.out (by omega)
                have HR5 := Lib.hid hR5
                have HN5 := Lib.hid hO5
                have HB55 := Lib.hid (hK5.blk HB5W.out hrb5' (by decide))
                have HB25 := Lib.hid (hK5.blk HB2W.out hne2 (by decide))
                have HK5 := Lib.hid (HKW.out.trans hK5)
                have HPC := Lib.hid hpc
                have HS2 := Lib.hid hS2
                have HX : Hid (r' = s.drop (q + 1) ∧ p < q + 1 ∧ q + 1 ≤ s.length) := Lib.hid ⟨hr', by have := HP5.out; omega, hql⟩
                have HOO := Lib.hid hO
                clear hR5 hO5 hK5 hpc hS2 hr' hO hRL hrd d0 d1 d2 d3 e0 e1 e2 e3 g0 g1 g2 g3 c1 f1 f2 hnq
                have c1 := RdrR.c1 HR5.out
                have f1 := Blk.frozen HR5.out 1
                have e0 := HB55.out.cell 0
                have e1 := HB55.out.cell 1
                have e2 := HB55.out.cell 2
                have e3 := HB55.out.cell 3
                have f3 := HB55.out.frozen 3
                have d0 := HB25.out.cell 0
                have d1 := HB25.out.cell 1
                have d2 := HB25.out.cell 2
                have d3 := HB25.out.cell 3
                have g0 := HB25.out.frozen 0
                have g1 := HB25.out.frozen 1
                have g2 := HB25.out.frozen 2
                have g3 := HB25.out.frozen 3
                simp only [List.getElem?_toArray, List.getElem?_cons_zero, List.getElem?_cons_succ] at d0 d1 d2 d3 e0 e1 e2 e3
                go_wp2_with fail
                have hA2 : Blk ((w5.setCell ⟨b5, 3, none⟩ (.slice A n c)).setCell ⟨rb, 1, none⟩ (.int .i64 ((q : Int) + 1))) w.heap.size 74 #[.string ⟨#[]⟩, .string ⟨#[]⟩, .int .u8 0, .slice none 0 0] := (HB25.out.far (p := ⟨b5, 3, none⟩) hb25 _).far (p := ⟨rb, 1, none⟩) hne2 _
                have hAR : RdrR (w5.setCell ⟨b5, 3, none⟩ (.slice A n c)) rb s q e 0 nv5 := Blk.far HR5.out (p := ⟨b5, 3, none⟩) hrb5 _
                refine bodyPost_ret (results_row rfl _ _ w.heap.size 74 #[.string ⟨#[]⟩, .string ⟨u.toArray⟩, .int .u8 o.toNat, .slice A n c] (0, 0) _ rfl (blk_set4 hA2) Tryd.underlying74 rfl infoP) rfl ?_
                rw [HOO.out]
                have hk : ∀ k, S2 k → (st4 ((w5.setCell ⟨b5, 3, none⟩ (.slice A n c)).setCell ⟨rb, 1, none⟩ (.int .i64 ((q : Int) + 1))) w.heap.size (.string ⟨#[]⟩) (.string ⟨u.toArray⟩) (.int .u8 o.toNat) (.slice A n c)).heap[k]? = w5.heap[k]? := fun k hk =>
                  have h1 := (HS2.out k hk).1
                  (heap_set4 k (show k ≠ w.heap.size by omega)).trans ((Below.heap_setCell _ ⟨rb, 1, none⟩ _ k (show k ≠ rb by omega)).trans (Below.heap_setCell _ ⟨b5, 3, none⟩ _ k (show k ≠ b5 by omega)))
                exact ⟨varR u o A n c, S2, q + 1, nv5, rfl, HPC.out.kept (fun p hp => World.cell?_of_block (hk _ hp)), fun b hb => ⟨by have := (HS2.out b hb).1; omega, by rw [size_set4]; have := (HS2.out b hb).2.1; simpa using this, (HS2.out b hb).2.2.of_eq (hk b hb)⟩, HX.out.1, HX.out.2.1, HX.out.2.2, blk_far4 (hAR.to (q + 1) _ (by omega)) hne,
                  by
                    have := own9_set4 (a0 := .string ⟨#[]⟩) (a1 := .string ⟨u.toArray⟩) (a2 := .int .u8 o.toNat) (a3 := .slice A n c) (Own9.far (Own9.far HN5.out HB55.out (by decide) (p := ⟨b5, 3, none⟩) rfl (.slice A n c)) hAR (by decide) (p := ⟨rb, 1, none⟩) rfl (.int .i64 ((q : Int) + 1))) hA2
                    rw [show mets acc (T.var u o t .nil).nms = mets (met acc u) t.nms by simp [nms, mets]]
                    exact this,
                  kq_set4 ((HK5.out.setCell (p := ⟨b5, 3, none⟩) (.inl hb5l) _).setCell (p := ⟨rb, 1, none⟩) (.inr rfl) _) (Nat.le_refl _)⟩
              · refine (HRD.out _ hrd).mono ?_
                rintro x w5 ⟨v, t, n, q, nv5, rfl, hRL, hnq, hql, hq2, hR5, hK5⟩
                obtain ⟨A, c, S2, rfl, hpc, hS2⟩ := RL.part hRL u o HU.out (by omega)
                have HR5 := Lib.hid hR5
                have HB55 := Lib.hid (hK5.blk HB5W.out hrb5' (by decide))
                have HB25 := Lib.hid (hK5.blk HB2W.out hne2 (by decide))
                have HK5 := Lib.hid (HKW.out.trans hK5)
                have HPC := Lib.hid hpc
                have HS2 := Lib.hid hS2
                have HX : Hid (s.length ≤ q + 1 ∧ q + 1 ≤ s.length + 1) := Lib.hid ⟨by omega, by omega⟩
                have HOO := Lib.hid hO
                clear hR5 hK5 hpc hS2 hO hRL hrd d0 d1 d2 d3 e0 e1 e2 e3 g0 g1 g2 g3 c1 f1 f2 hnq
                have c1 := RdrR.c1 HR5.out
                have f1 := Blk.frozen HR5.out 1
                have e0 := HB55.out.cell 0
                have e1 := HB55.out.cell 1
                have e2 := HB55.out.cell 2
                have e3 := HB55.out.cell 3
                have f3 := HB55.out.frozen 3
                have d0 := HB25.out.cell 0
                have d1 := HB25.out.cell 1
                have d2 := HB25.out.cell 2
                have d3 := HB25.out.cell 3
                have g0 := HB25.out.frozen 0
                have g1 := HB25.out.frozen 1
                have g2 := HB25.out.frozen 2
                have g3 := HB25.out.frozen 3
                simp only [List.getElem?_toArray, List.getElem?_cons_zero, List.getElem?_cons_succ] at d0 d1 d2 d3 e0 e1 e2 e3
                go_wp2_with fail
                have hA2 : Blk ((w5.setCell ⟨b5, 3, none⟩ (.slice A n c)).setCell ⟨rb, 1, none⟩ (.int .i64 ((q : Int) + 1))) w.heap.size 74 #[.string ⟨#[]⟩, .string ⟨#[]⟩, .int .u8 0, .slice none 0 0] := (HB25.out.far (p := ⟨b5, 3, none⟩) hb25 _).far (p := ⟨rb, 1, none⟩) hne2 _
                have hAR : RdrR (w5.setCell ⟨b5, 3, none⟩ (.slice A n c)) rb s q e no nv5 := Blk.far HR5.out (p := ⟨b5, 3, none⟩) hrb5 _
                refine bodyPost_ret (results_row rfl _ _ w.heap.size 74 #[.string ⟨#[]⟩, .string ⟨u.toArray⟩, .int .u8 o.toNat, .slice A n c] (0, 0) _ rfl (blk_set4 hA2) Tryd.underlying74 rfl infoP) rfl ?_
                rw [HOO.out]
                have hk : ∀ k, S2 k → (st4 ((w5.setCell ⟨b5, 3, none⟩ (.slice A n c)).setCell ⟨rb, 1, none⟩ (.int .i64 ((q : Int) + 1))) w.heap.size (.string ⟨#[]⟩) (.string ⟨u.toArray⟩) (.int .u8 o.toNat) (.slice A n c)).heap[k]? = w5.heap[k]? := fun k hk =>
                  have h1 := (HS2.out k hk).1
                  (heap_set4 k (show k ≠ w.heap.size by omega)).trans ((Below.heap_setCell _ ⟨rb, 1, none⟩ _ k (show k ≠ rb by omega)).trans (Below.heap_setCell _ ⟨b5, 3, none⟩ _ k (show k ≠ b5 by omega)))
                exact ⟨varR u o A n c, S2, _, q + 1, nv5, rfl, HPC.out.kept (fun p hp => World.cell?_of_block (hk _ hp)), fun b hb => ⟨by have := (HS2.out b hb).1; omega, by rw [size_set4]; have := (HS2.out b hb).2.1; simpa using this, (HS2.out b hb).2.2.of_eq (hk b hb)⟩, HX.out.1, HX.out.2, blk_far4 (hAR.to (q + 1) _ (by omega)) hne,
                  kq_set4 ((HK5.out.setCell (p := ⟨b5, 3, none⟩) (.inl hb5l) _).setCell (p := ⟨rb, 1, none⟩) (.inr rfl) _) (Nat.le_refl _)⟩
          · have h23 := not_or.1 h2
            have HOO : Hid (O = .err 4) := Lib.hid (by have := HV.out; rwa [clsEnd_3 h1 h23.1 h23.2] at this)
            have HWR := Lib.hid (wrong_any s p3 rb e 4 0 nv3 _ (HR3'.out.to p3 ((p : Int) + 2 + (n2 : Int)) HZ3.out))
            have HB3w : Hid (Blk (w3.setCell ⟨rb, 1, none⟩ (.int .i64 ((p : Int) + 2 + (n2 : Int)))) w.heap.size 74 #[.string ⟨#[]⟩, .string ⟨#[]⟩, .int .u8 0, .slice none 0 0]) := Lib.hid (HB3.out.far (p := ⟨rb, 1, none⟩) hne2 _)
            have HK3w : Hid (Kq rb w (w3.setCell ⟨rb, 1, none⟩ (.int .i64 ((p : Int) + 2 + (n2 : Int))))) := Lib.hid (HK3.out.setCell (p := ⟨rb, 1, none⟩) (.inr rfl) _)
            have hcs : R3.length = 0 ∨ (R3.length = 1 ∧ R3.getD 0 0 ≠ 125) ∨ (2 ≤ R3.length ∧ R3.getD 0 0 ≠ 125 ∧ R3.getD 0 0 ≠ 58) ∨ (2 ≤ R3.length ∧ R3.getD 0 0 = 58 ∧ R3.getD 1 0 ≠ 45 ∧ R3.getD 1 0 ≠ 43) := by
              by_cases z0 : R3.length = 0
              · exact .inl z0
              · by_cases z1 : R3.length = 1
                · exact .inr (.inl ⟨z1, untake1 (by omega) h1⟩)
                · by_cases z2 : R3.getD 0 0 = 58
                  · exact .inr (.inr (.inr ⟨by omega, z2, untake2 (by omega) h23.1 z2, untake2 (by omega) h23.2 z2⟩))
                  · exact .inr (.inr (.inl ⟨by omega, untake1 (by omega) h1, z2⟩))
            clear h1 h2 h23
            rcases hcs with z | ⟨z, z0⟩ | ⟨z, z0, z1⟩ | ⟨z, z0, z1, z2⟩
            case' inl =>
              have hl3b : decide (0 < (R3.length : Int)) = false := by rw [decide_eq_false_iff_not]; omega
              have hl3c : ¬ 0 < R3.length := by omega
              have hl2b : decide ((R3.length : Int) < 2) = true := by rw [decide_eq_true_iff]; omega
              clear z
            case' inr.inl =>
              have hl3 : 0 < R3.length := by omega
              have hl3b : decide (0 < (R3.length : Int)) = true := by rw [decide_eq_true_iff]; omega
              have hl2b : decide ((R3.length : Int) < 2) = true := by rw [decide_eq_true_iff]; omega
              have hx3 := idx0 hl3
              have q125 : (((R3.getD 0 0).toNat : Int) == 125) = false := b8f z0
              generalize R3.getD 0 0 = c at hx3 q125
              clear z z0
            case' inr.inr.inl =>
              have hl3 : 0 < R3.length := by omega
              have hl3b : decide (0 < (R3.length : Int)) = true := by rw [decide_eq_true_iff]; omega
              have hl2b : decide ((R3.length : Int) < 2) = false := by rw [decide_eq_false_iff_not]; omega
              have hx3 := idx0 hl3
              have q125 : (((R3.getD 0 0).toNat : Int) == 125) = false := b8f z0
              have q58 : (((R3.getD 0 0).toNat : Int) != 58) = true := n8f z1
              generalize R3.getD 0 0 = c at hx3 q125 q58
              clear z z0 z1
            case' inr.inr.inr =>
              have hl3 : 0 < R3.length := by omega
              have hl3b : decide (0 < (R3.length : Int)) = true := by rw [decide_eq_true_iff]; omega
              have hl2b : decide ((R3.length : Int) < 2) = false := by rw [decide_eq_false_iff_not]; omega
              have hx3 := idx0 hl3
              rw [z0] at hx3
              have hx4 := idx1 (show 1 < R3.length by omega)
              have q45 : (((R3.getD 1 0).toNat : Int) != 45) = true := n8f z1
              have q43 : (((R3.getD 1 0).toNat : Int) != 43) = true := n8f z2
              generalize R3.getD 1 0 = d at hx4 q45 q43
              clear z z0 z1 z2
            all_goals
              go_wp2_with fail
              refine HWR.out.mono ?_
              rintro x w5 ⟨rfl, h1, h2⟩
              have HR5 : Hid (RdrR w5 rb s s.length e 4 nv3) := Lib.hid h1
              have HB5 := Lib.hid (h2.blk HB3w.out hne2 (by decide))
              have HK5 := Lib.hid (HK3w.out.trans h2)
              clear h1 h2 d0 d1 d2 d3 e0 e1 e2 e3 g0 g1 g2 g3 c1 f1
              have d0 := HB5.out.cell 0
              have d1 := HB5.out.cell 1
              have d2 := HB5.out.cell 2
              have d3 := HB5.out.cell 3
              have g0 := HB5.out.frozen 0
              have g1 := HB5.out.frozen 1
              have g2 := HB5.out.frozen 2
              have g3 := HB5.out.frozen 3
              simp only [List.getElem?_toArray, List.getElem?_cons_zero, List.getElem?_cons_succ] at d0 d1 d2 d3
              go_wp2_with fail
              refine bodyPost_ret (results_row rfl _ _ w.heap.size 74 #[.string ⟨#[]⟩, .string ⟨#[]⟩, .int .u8 0, .slice none 0 0] (0, 0) _ rfl (blk_set4 HB5.out) Tryd.underlying74 rfl infoP) rfl ?_
              rw [HOO.out]
              exact ⟨_, fun _ => False, _, s.length, nv3, rfl, Pcs.one_zeroR _ _, fun _ h => h.elim, Nat.le_refl _, by omega, blk_far4 HR5.out hne, kq_set4 HK5.out (Nat.le_refl _)⟩
    · have HOO : Hid (O = .ok (.lit [36] .nil) R1) := Lib.hid (by
        cases hd : R1 with
        | nil => rw [hd] at hv; exact hv
        | cons c q =>
          rw [hd] at hv hb
          have : ¬ c = 123 := fun e => hb (by rw [e]; rfl)
          simp only [if_neg this] at hv
          exact hv)
      have HBY : Hid (Calls Tryd.prog 35 #[.pointer (some ⟨rb, 0, none⟩), .int .i64 1] w2 (fun x w' => x = .returned (.agg #[.string ⟨#[36]⟩, .string ⟨#[]⟩, .int .u8 0, .slice none 0 0]) ∧ RdrR w' rb s p1 e 0 nv ∧ Kp w2.heap.size (· = rb) w2 w')) := Lib.hid (by
        have := bytes_any s HHS.out p 1 rb (by omega) e 0 nv w2 HR.out
        unfold BytesPost at this
        rw [cut_one hp, h36, ← HP1.out] at this
        exact this)
      clear h0 hv h36
      by_cases hnil : R1.length = 0
      case' pos =>
        have q0 : ((R1.length : Int) == 0) = true := by rw [hnil]; rfl
        clear hb hnil
      case' neg =>
        have q0 : ((R1.length : Int) == 0) = false := by rw [beq_eq_false_iff_ne]; omega
        have hl0 : 0 < R1.length := by omega
        have hx0 := idx0 hl0
        have hx1 : (((R1.getD 0 0).toNat : Int) != 123) = true := n8f (untake1 hl0 hb)
        generalize R1.getD 0 0 = c at hx0 hx1
        clear hb hnil
      all_goals
        go_wp2_with fail
        refine HBY.out.mono ?_
        rintro x w3 ⟨rfl, h1, h2⟩
        have HR3 := Lib.hid h1
        have HB3 := Lib.hid (h2.blk HB2.out HB2.out.lt hne2)
        have HO3 := Lib.hid (Own9.kp HO.out HR.out h2)
        have HK3 := Lib.hid (HK.out.trans (Kp.kq h2))
        clear h1 h2
        have d0 := HB3.out.cell 0
        have d1 := HB3.out.cell 1
        have d2 := HB3.out.cell 2
        have d3 := HB3.out.cell 3
        have g0 := HB3.out.frozen 0
        have g1 := HB3.out.frozen 1
        have g2 := HB3.out.frozen 2
        have g3 := HB3.out.frozen 3
        simp only [List.getElem?_toArray, List.getElem?_cons_zero, List.getElem?_cons_succ] at d0 d1 d2 d3
        go_wp2_with fail
        refine bodyPost_ret (results_row rfl _ _ w.heap.size 74 #[.string ⟨#[36]⟩, .string ⟨#[]⟩, .int .u8 0, .slice none 0 0] (0, 0) _ rfl (blk_set4 HB3.out) Tryd.underlying74 rfl infoP) rfl ?_
        rw [HOO.out]
        exact ⟨litR [36], fun _ => False, p1, nv, rfl, Pcs.one_litR _ _ [36], fun _ h => h.elim, HR1.out, hpp1, hp1l, blk_far4 HR3.out hne, own9_set4 HO3.out HB3.out, kq_set4 HK3.out (Nat.le_refl _)⟩
end Exp
end Go.Proofs.YtnmnhnhlggbijaaDoor
