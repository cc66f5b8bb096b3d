/-
  The walk of the law ExpandPlain at this seat's translation.
-/
import Derived.Test.YtnmnhnhlggbijaaDoorExWd
import Derived.Test.YtnmnhnhlggbijaaDoorSmt
namespace Go.Proofs.YtnmnhnhlggbijaaDoor
open Go.RowKit Err
namespace Exp
open T

/-- What has answers: false: no byte of the text is one of these. -/
def HasPost (s bs : List UInt8) (w : World) (x : Ending) (w' : World) : Prop := ∃ z : Bool, x = .returned (.bool z) ∧ (z = false → ∀ c ∈ s, c ∉ bs) ∧ Below w.heap.size w w'
set_option maxHeartbeats 4000000 in
theorem has_any (s bs : List UInt8) (A : Option Addr) (n c B : Nat) (w : World) (hr : Reads w B 1 A n (Lib.byteCells bs)) (hB : B ≤ w.heap.size) (hs : s.length ≤ 1099511627776) (hn : n ≤ 64) :
    Calls Tryd.prog 16 #[.string ⟨s.toArray⟩, .slice A n c] w (HasPost s bs w) := by
  have hl : bs.length = n := by have := hr.1; rw [Lib.byteCells_length] at this; omega
  have HL := Lib.hid hl
  have HR := Lib.hid (hr.more hB)
  clear hr hl
  go_enter Tryd.func16, Tryd.ntmps16
  go_wp2_with fail
  go_loopw [5] (fun i wr => ∃ k : Nat, k ≤ s.length ∧ i = .int .i64 k ∧ Hid (∀ c ∈ s.take k, c ∉ bs) ∧ Hid (Below w.heap.size w wr)) (fun i _ => s.length - (intOf i).toNat)
  case atStart => exact ⟨0, by omega, rfl, Lib.hid (by simp), Lib.hid (Below.refl _ _)⟩
  case round =>
    obtain ⟨k, hk, rfl, HE, HW⟩ := hrel
    obtain ⟨w0, hw0⟩ : ∃ w0 : World, w0 = wr := ⟨_, rfl⟩
    subst hw0
    by_cases hlt : k < s.length
    · have hidx := run_index_list Tryd.underlying9 s k hlt
      have HT : Hid (s.take (k + 1) = s.take k ++ [s.getD k 0]) := Lib.hid (by
        rw [List.take_succ_eq_append_getElem (by omega)]
        simp [List.getD, List.getElem?_eq_getElem hlt])
      generalize s.getD k 0 = p at hidx HT
      go_wp2_with fail
      go_loopw [6] (fun i wr => ∃ j : Nat, j ≤ n ∧ i = .int .i64 j ∧ Hid (p ∉ bs.take j) ∧ Hid (Below w.heap.size w wr)) (fun i _ => n - (intOf i).toNat)
      case atStart => exact ⟨0, by omega, rfl, Lib.hid (by simp), HW⟩
      case round =>
        obtain ⟨j, hj, rfl, HF, HV⟩ := hrel
        by_cases hlt2 : j < n
        · obtain ⟨ad, u, rfl, _, hu, hc⟩ := (HR.out.below HV.out).at_ hlt2
          obtain rfl : u = .int .u8 (bs.getD j 0).toNat := by
            have := HL.out
            unfold Lib.byteCells at hu
            rw [List.getElem?_map, List.getElem?_eq_getElem (by omega)] at hu
            simp [List.getD, List.getElem?_eq_getElem (show j < bs.length by omega)]
            simpa using hu.symm
          have HX : Hid (bs.take (j + 1) = bs.take j ++ [bs.getD j 0]) := Lib.hid (by
            have := HL.out
            rw [List.take_succ_eq_append_getElem (by omega)]
            simp [List.getD, List.getElem?_eq_getElem (show j < bs.length by omega)])
          clear hu
          generalize bs.getD j 0 = q at hc HX
          have qq : ((p.toNat : Int) == (q.toNat : Int)) = decide (p = q) := b8 p q
          by_cases hpq : p = q
          · rw [decide_eq_true hpq] at qq
            clear hpq
            go_wp2_with fail
            go_quiet (fail)
            have HW1 := Lib.hid (below_drewN HV.out nq)
            go_wp2
            go_ret
            exact ⟨true, rfl, (fun h => by simp at h), HW1.out⟩
          · rw [decide_eq_false hpq] at qq
            have H1 : Hid (p ∉ bs.take (j + 1)) := Lib.hid (by rw [HX.out]; simp only [List.mem_append, List.mem_singleton, not_or]; exact ⟨HF.out, hpq⟩)
            clear hpq
            go_wp2_with fail
            go_quiet (fail)
            have HW1 := Lib.hid (below_drewN HV.out nq)
            go_wp2
            go_roundw
            case rel => exact ⟨j + 1, by omega, by go_num, H1, HW1⟩
            case measure => simp [intOf]; omega
        · have HZ : Hid (p ∉ bs) := Lib.hid (by have := HF.out; rwa [List.take_of_length_le (by have := HL.out; omega)] at this)
          have HE2 : Hid (∀ c ∈ s.take (k + 1), c ∉ bs) := Lib.hid (by
            intro c hc
            rw [HT.out] at hc
            rcases List.mem_append.1 hc with h | h
            · exact HE.out c h
            · obtain rfl := List.mem_singleton.1 h; exact HZ.out)
          go_wp2_with fail
          go_roundw
          case rel => exact ⟨k + 1, by omega, by go_num, HE2, HV⟩
          case measure => simp [intOf]; omega
    · have HZ : Hid (∀ c ∈ s, c ∉ bs) := Lib.hid (by have := HE.out; rwa [List.take_of_length_le (by omega)] at this)
      go_wp2_with fail
      go_ret
      exact ⟨false, rfl, fun _ => HZ.out, HW.out⟩
/-- Is it nil? -/
structure NilIs (E : Value) (z : Bool) : Prop where
  eq : ∀ wx : World, (binOp .eql 28 E .nilIface).run Tryd.prog wx = .ok (.bool z) wx
  ne : ∀ wx : World, (binOp .neq 28 E .nilIface).run Tryd.prog wx = .ok (.bool (!z)) wx
  ge : ∀ (o : Operand) (wx : World), (eqGuard .eql 28 o (.const .nilIface) E .nilIface).run Tryd.prog wx = .ok () wx
  gn : ∀ (o : Operand) (wx : World), (eqGuard .neq 28 o (.const .nilIface) E .nilIface).run Tryd.prog wx = .ok () wx
theorem errV_nil (n : Nat) : NilIs (errV n) (decide (n = 0)) := by
  unfold errV
  by_cases h : n = 0
  · rw [if_pos h, decide_eq_true h]
    exact ⟨fun wx => by go_simp, fun wx => by go_simp, fun o wx => by unfold eqGuard; simp, fun o wx => by unfold eqGuard; simp⟩
  · rw [if_neg h, decide_eq_false h]
    exact ⟨fun wx => by go_simp, fun wx => by go_simp, fun o wx => by unfold eqGuard; simp, fun o wx => by unfold eqGuard; simp⟩
theorem told_lits (f : List UInt8 → List UInt8) (s r : List UInt8) : told f (.ok (lits s .nil) r) = if s.length ≤ 65536 then (s, 0) else ([], 5) := by
  rw [told_ok, val_lits]; simp [T.val]
theorem new_cells (w : World) (xs : Array Value) (t : TypeId) (j : Nat) (u : Value) (h : xs[j]? = some u) : (w.alloc (.cells xs t)).cell? (Addr.add ⟨w.heap.size, 0, none⟩ j) = some u := by
  have := cell_of_row (w.alloc (.cells xs t)) w.heap.size j xs t (0, 0) (heap_alloc_new w _)
  rw [show Addr.add ⟨w.heap.size, 0, none⟩ j = ⟨w.heap.size, j, none⟩ by (simp [Addr.add]; try omega), this, h]
theorem two_has (s : List UInt8) (e : UInt8) (w : World) (hs : s.length ≤ 1099511627776) : Calls Tryd.prog 16 #[.string ⟨s.toArray⟩, .slice (some ⟨w.heap.size, 0, none⟩) 2 2] (w.alloc (.cells #[.int .u8 e.toNat, .int .u8 36] 5)) (HasPost s [e, 36] (w.alloc (.cells #[.int .u8 e.toNat, .int .u8 36] 5))) := by
  refine has_any s [e, 36] _ 2 2 (w.heap.size + 1) _ ⟨rfl, fun _ => ⟨_, rfl, by simp, fun j u hu => ?_⟩⟩ (by simp) hs (by omega)
  rcases j with _ | _ | j <;> simp [Lib.byteCells] at hu
  all_goals subst hu; exact new_cells w _ _ _ _ (by rfl)
theorem four_has (s : List UInt8) (e : UInt8) (w : World) (hs : s.length ≤ 1099511627776) : Calls Tryd.prog 16 #[.string ⟨s.toArray⟩, .slice (some ⟨w.heap.size, 0, none⟩) 4 4] (w.alloc (.cells #[.int .u8 e.toNat, .int .u8 36, .int .u8 34, .int .u8 39] 5)) (HasPost s [e, 36, 34, 39] (w.alloc (.cells #[.int .u8 e.toNat, .int .u8 36, .int .u8 34, .int .u8 39] 5))) := by
  refine has_any s [e, 36, 34, 39] _ 4 4 (w.heap.size + 1) _ ⟨rfl, fun _ => ⟨_, rfl, by simp, fun j u hu => ?_⟩⟩ (by simp) hs (by omega)
  rcases j with _ | _ | _ | _ | j <;> simp [Lib.byteCells] at hu
  all_goals subst hu; exact new_cells w _ _ _ _ (by rfl)
set_option maxHeartbeats 16000000 in
set_option maxRecDepth 100000 in
theorem expandPlain_any (s : List UInt8) (e : UInt8) (A : Option Addr) (n c : Nat) (vars : List (List UInt8 × List UInt8)) (w : World) (hr : Reads w w.heap.size 2 A n (px vars)) (hv : PxLe 140737488355328 vars) (hg : ErrTab w) :
    Calls Tryd.prog 5 #[.string ⟨s.toArray⟩, .int .u8 e.toNat, .slice A n c] w fun x w' => x = .returned (.bool true) ∧ Below w.heap.size w w' := by
  have HFW := Lib.hid (few_any s A n c w)
  by_cases hf : s.length ≤ 131072 ∧ n ≤ 4096
  · rw [decide_eq_true hf] at HFW
    obtain ⟨O1, p1⟩ := Rd.is e .plain s
    obtain ⟨O2, p2⟩ := Rd.is e .doc s
    have H1 := Lib.hid (fun w1 (hb : Below w.heap.size w w1) => word_any s e A n c vars O1 w1 (by omega) (by omega) ((hr.below hb).more hb.size) hv p1)
    have H2 := Lib.hid (fun w1 (hb : Below w.heap.size w w1) => doc_any s e A n c vars O2 w1 (by omega) (by omega) ((hr.below hb).more hb.size) hv p2)
    have H3 := Lib.hid (fun w1 => names_any s e O1 w1 (by omega) p1)
    have T2 := Lib.hid (fun w1 => two_has s e w1 (by omega))
    have T4 := Lib.hid (fun w1 => four_has s e w1 (by omega))
    have HP5 := fun w1 (hb : Below w.heap.size w w1) => plain_errV 5 (by omega) w1 (errTab_below hg hb (errTab_lt hg))
    have F1 : (∀ c ∈ s, c ∉ [e, 36, 34, 39]) → told (valOf vars) O1 = (if s.length ≤ 65536 then (s, 0) else ([], 5)) ∧ toldNames O1 = [] := fun h => by
      rw [p1.det (rd_plain s fun c hc => by simpa using h c hc)]
      exact ⟨told_lits _ _ _, by simp [toldNames, nms_lits, nms, mets]⟩
    have F2 : (∀ c ∈ s, c ∉ [e, 36]) → told (valOf vars) O2 = (if s.length ≤ 65536 then (s, 0) else ([], 5)) := fun h => by
      rw [p2.det (rd_doc s fun c hc => by simpa using h c hc)]
      exact told_lits _ _ _
    unfold ToldPost at H1 H2
    unfold NmsPost at H3
    have N1 := errV_nil (told (valOf vars) O1).2
    have N2 := errV_nil (told (valOf vars) O2).2
    by_cases hs : s.length ≤ 65536
    · have b0 : decide ((65536 : Int) < (s.length : Int)) = false := by rw [decide_eq_false_iff_not]; omega
      rw [if_pos hs] at F1 F2
      have G1 : (∀ c ∈ s, c ∉ [e, 36, 34, 39]) → (told (valOf vars) O1).1 = s ∧ decide ((told (valOf vars) O1).2 = 0) = true ∧ toldNames O1 = [] := fun h => by
        obtain ⟨h1, h2⟩ := F1 h
        exact ⟨by rw [h1], by rw [h1]; rfl, h2⟩
      have G2 : (∀ c ∈ s, c ∉ [e, 36]) → (told (valOf vars) O2).1 = s ∧ decide ((told (valOf vars) O2).2 = 0) = true := fun h => by
        have h1 := F2 h
        exact ⟨by rw [h1], by rw [h1]; rfl⟩
      clear F1 F2 HP5 p1 p2
      generalize (told (valOf vars) O1).1 = x1 at H1 G1
      generalize (told (valOf vars) O2).1 = x2 at H2 G2
      generalize toldNames O1 = l1 at H3 G1
      generalize decide ((told (valOf vars) O1).2 = 0) = z1 at N1 G1
      generalize decide ((told (valOf vars) O2).2 = 0) = z2 at N2 G2
      generalize errV (told (valOf vars) O1).2 = E1 at H1 N1
      generalize errV (told (valOf vars) O2).2 = E2 at H2 N2
      have G1 := Lib.hid G1
      have G2 := Lib.hid G2
      have hn1 := fun wx => neq_texts s s wx
      have hn2 := fun wx => eq_texts s s wx
      rw [decide_eq_false (by simp)] at hn1
      rw [decide_eq_true rfl] at hn2
      have e1 := N1.eq
      have g1 := N1.ge
      have e2 := N2.ne
      have g2 := N2.gn
      clear N1 N2 hr hv hg hs hf
      go_enter Tryd.func5, Tryd.ntmps5
      go_wp2_with fail
      refine HFW.out.mono ?_
      rintro x w1 ⟨rfl, rfl⟩
      go_wp2_with fail
      refine (H1.out _ (Below.refl _ _)).mono ?_
      rintro x w1 ⟨rfl, hb1⟩
      have B1 := Lib.hid hb1
      clear hb1
      go_wp2_with fail
      refine (H2.out _ B1.out).mono ?_
      rintro x w2 ⟨rfl, hb2⟩
      have B2 := Lib.hid (B1.out.trans (hb2.mono B1.out.size))
      clear hb2
      go_wp2_with fail
      refine (T2.out _).mono ?_
      rintro x w3 ⟨y1, rfl, hy1, hb3⟩
      have B3 := Lib.hid ((B2.out.alloc B2.out.size _).trans (hb3.mono (by have := B2.out.size; simp; omega)))
      clear hb3
      cases y1
      case' false => obtain ⟨rfl, rfl⟩ := G2.out (hy1 rfl)
      all_goals
        clear hy1
        go_wp2_with fail
        refine (T4.out _).mono ?_
        rintro x w4 ⟨y2, rfl, hy2, hb4⟩
        have B4 := Lib.hid ((B3.out.alloc B3.out.size _).trans (hb4.mono (by have := B3.out.size; simp; omega)))
        clear hb4
        cases y2
        · obtain ⟨rfl, rfl, rfl⟩ := G1.out (hy2 rfl)
          clear hy2
          go_wp2_with fail
          refine (H3.out _).mono ?_
          rintro x w5 ⟨v, rfl, ho, hb5⟩
          have B5 := Lib.hid (B4.out.trans (hb5.mono B4.out.size))
          obtain ⟨A9, c9, rfl, _⟩ := ho.form
          clear hb5 ho
          go_wp2_with fail
          go_ret
          exact ⟨rfl, B5.out⟩
        · clear hy2
          go_wp2_with fail
          go_ret
          exact ⟨rfl, B4.out⟩
    · have b0 : decide ((65536 : Int) < (s.length : Int)) = true := by rw [decide_eq_true_iff]; omega
      rw [if_neg hs] at F1 F2
      have G1 : (∀ c ∈ s, c ∉ [e, 36, 34, 39]) → errV (told (valOf vars) O1).2 = errV 5 := fun h => by rw [(F1 h).1]
      have G2 : (∀ c ∈ s, c ∉ [e, 36]) → errV (told (valOf vars) O2).2 = errV 5 := fun h => by rw [F2 h]
      clear F1 F2 N1 N2 p1 p2 H3
      generalize (told (valOf vars) O1).1 = x1 at H1
      generalize (told (valOf vars) O2).1 = x2 at H2
      generalize errV (told (valOf vars) O1).2 = E1 at H1 G1
      generalize errV (told (valOf vars) O2).2 = E2 at H2 G2
      have G1 := Lib.hid G1
      have G2 := Lib.hid G2
      have HP := Lib.hid HP5
      generalize errV 5 = E5 at G1 G2 HP
      clear hr hv hg hs hf HP5
      go_enter Tryd.func5, Tryd.ntmps5
      go_wp2_with fail
      refine HFW.out.mono ?_
      rintro x w1 ⟨rfl, rfl⟩
      go_wp2_with fail
      refine (H1.out _ (Below.refl _ _)).mono ?_
      rintro x w1 ⟨rfl, hb1⟩
      have B1 := Lib.hid hb1
      clear hb1
      go_wp2_with fail
      refine (H2.out _ B1.out).mono ?_
      rintro x w2 ⟨rfl, hb2⟩
      have B2 := Lib.hid (B1.out.trans (hb2.mono B1.out.size))
      clear hb2
      go_wp2_with fail
      refine (T2.out _).mono ?_
      rintro x w3 ⟨y1, rfl, hy1, hb3⟩
      have B3 := Lib.hid ((B2.out.alloc B2.out.size _).trans (hb3.mono (by have := B2.out.size; simp; omega)))
      clear hb3
      cases y1
      · have g2 := G2.out (hy1 rfl)
        clear hy1
        go_wp2_with fail
        refine (HP.out _ B3.out).mono ?_
        rintro x w5 ⟨rfl, hb5⟩
        have B5 := Lib.hid (B3.out.trans (hb5.mono B3.out.size))
        clear hb5
        go_wp2_with fail
        refine (T4.out _).mono ?_
        rintro x w4 ⟨y2, rfl, hy2, hb4⟩
        have B4 := Lib.hid ((B5.out.alloc B5.out.size _).trans (hb4.mono (by have := B5.out.size; simp; omega)))
        clear hb4
        cases y2
        · have g1 := G1.out (hy2 rfl)
          clear hy2
          go_wp2_with fail
          refine (HP.out _ B4.out).mono ?_
          rintro x w6 ⟨rfl, hb6⟩
          have B6 := Lib.hid (B4.out.trans (hb6.mono B4.out.size))
          clear hb6
          go_wp2_with fail
          go_ret
          exact ⟨rfl, B6.out⟩
        · clear hy2
          go_wp2_with fail
          go_ret
          exact ⟨rfl, B4.out⟩
      · clear hy1
        go_wp2_with fail
        refine (T4.out _).mono ?_
        rintro x w4 ⟨y2, rfl, hy2, hb4⟩
        have B4 := Lib.hid ((B3.out.alloc B3.out.size _).trans (hb4.mono (by have := B3.out.size; simp; omega)))
        clear hb4
        cases y2
        · have g1 := G1.out (hy2 rfl)
          clear hy2
          go_wp2_with fail
          refine (HP.out _ B4.out).mono ?_
          rintro x w6 ⟨rfl, hb6⟩
          have B6 := Lib.hid (B4.out.trans (hb6.mono B4.out.size))
          clear hb6
          go_wp2_with fail
          go_ret
          exact ⟨rfl, B6.out⟩
        · clear hy2
          go_wp2_with fail
          go_ret
          exact ⟨rfl, B4.out⟩
  · rw [decide_eq_false hf] at HFW
    clear hf hr hv hg
    go_enter Tryd.func5, Tryd.ntmps5
    go_wp2_with fail
    refine HFW.out.mono ?_
    rintro x w1 ⟨rfl, rfl⟩
    go_wp2_with fail
    go_ret
    exact ⟨rfl, Below.refl _ _⟩
end Exp
end Go.Proofs.YtnmnhnhlggbijaaDoor
