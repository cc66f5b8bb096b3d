/-
  The law ExpandHangs: what a word tells hangs on the values of its names alone.
-/
import Derived.Test.YtnmnhnhlggbijaaExpX
import Derived.Test.YtnmnhnhlggbijaaExpL
import Derived.Test.YtnmnhnhlggbijaaSmt
import Derived.Test.YtnmnhnhlggbijaaCpP
import Derived.Test.YtnmnhnhlggbijaaErrN
import Derived.Test.YtnmnhnhlggbijaaExpU
import Derived.Test.YtnmnhnhlggbijaaExJ
namespace Go.Proofs.Ytnmnhnhlggbijaa
open Go.RowKit Err
namespace Exp
open T
theorem told_own (vars other : List (List UInt8 × List UInt8)) (O : Out) : told (valOf (other ++ (toldNames O).map fun m => (m, valOf vars m))) O = told (valOf vars) O := by
  cases O with
  | err no => rfl
  | ok t r =>
    have h : t.val (valOf (other ++ (toldNames (.ok t r)).map fun m => (m, valOf vars m))) = t.val (valOf vars) := val_congr t fun n hn => valOf_own (by
      show n ∈ mets [] t.nms
      exact (mem_mets _ _).2 (.inr hn))
    rw [told_ok, told_ok, h]
theorem told_zero (f : List UInt8 → List UInt8) (O : Out) (h : (told f O).2 ≠ 0) : (told f O).1 = [] := by
  cases O with
  | err no => rfl
  | ok t r =>
    rw [told_ok] at h ⊢
    by_cases hn : (t.val f).length ≤ 65536
    · rw [if_pos hn] at h; exact absurd rfl h
    · rw [if_neg hn]
theorem num_errV (no : Nat) (h : no ≤ 32) (w : World) : Calls Try.prog 18 #[errV no] w fun e w' => e = .returned (.int .i64 no) ∧ Below w.heap.size w w' := by
  unfold errV
  by_cases h0 : no = 0
  · rw [if_pos h0]
    exact (num_nil w).mono fun _ _ ⟨h1, h2⟩ => ⟨by rw [h1, h0]; rfl, by subst h2; exact Below.refl _ _⟩
  · rw [if_neg h0]
    exact num_errno no (by omega) h w
theorem nms_len {m : List UInt8} : ∀ t : T, m ∈ t.nms → m.length ≤ t.wt
  | .nil, h => by simp [nms] at h
  | .lit s r, h => by have := nms_len r (by simpa [nms] using h); simp only [T.wt]; omega
  | .var n o i r, h => by
    simp only [nms, List.mem_cons, List.mem_append] at h
    simp only [T.wt]
    rcases h with rfl | h | h
    · omega
    · have := nms_len i h; omega
    · have := nms_len r h; omega
theorem valOf_le {N : Nat} {vars : List (List UInt8 × List UInt8)} (h : PxLe N vars) (n : List UInt8) : (valOf vars n).length ≤ N := by
  have : ∀ (l : List (List UInt8 × List UInt8)) (v : List UInt8), v.length ≤ N → PxLe N l → (l.foldl (fun v p => if p.1 = n then p.2 else v) v).length ≤ N := by
    intro l
    induction l with
    | nil => intro v hv _; exact hv
    | cons p l ih =>
      intro v hv hl
      refine ih _ ?_ (fun q hq => hl q (List.mem_cons_of_mem _ hq))
      show (if p.1 = n then p.2 else v).length ≤ N
      by_cases e : p.1 = n
      · rw [if_pos e]; exact (hl p (List.mem_cons_self ..)).2
      · rw [if_neg e]; exact hv
  exact this vars [] (by simp) h
theorem told_no {f : List UInt8 → List UInt8} {e : UInt8} {k : K} {s : List UInt8} {O : Out} (h : Rd e k s O) : (told f O).2 ≤ 32 := by
  cases O with
  | err no => have := h.no; show no ≤ 32; omega
  | ok t r => rw [told_ok]; split <;> simp
/-- The names with their values. -/
def ownP (vars : List (List UInt8 × List UInt8)) (l : List (List UInt8)) : List (List UInt8 × List UInt8) := l.map fun m => (m, valOf vars m)
theorem ownP_le {N : Nat} {vars : List (List UInt8 × List UInt8)} {l : List (List UInt8)} (h : PxLe N vars) (hl : ∀ m ∈ l, m.length ≤ N) : PxLe N (ownP vars l) := by
  intro p hp
  obtain ⟨m, hm, rfl⟩ := List.mem_map.1 hp
  exact ⟨hl m hm, valOf_le h m⟩
theorem ownP_succ (vars : List (List UInt8 × List UInt8)) (l : List (List UInt8)) (k : Nat) (h : k < l.length) : ownP vars (l.take (k + 1)) = ownP vars (l.take k) ++ [(l.getD k [], valOf vars (l.getD k []))] := by
  unfold ownP
  rw [List.take_succ_eq_append_getElem h, List.map_append]
  simp [List.getD, List.getElem?_eq_getElem h]
theorem valOf_take (vars : List (List UInt8 × List UInt8)) (k : Nat) (h : k < vars.length) (n : List UInt8) : valOf (vars.take (k + 1)) n = if (vars.getD k ([], [])).1 = n then (vars.getD k ([], [])).2 else valOf (vars.take k) n := by
  rw [List.take_succ_eq_append_getElem h, valOf_snoc]
  simp [List.getD, List.getElem?_eq_getElem h]
theorem toldNames_le {e : UInt8} {s : List UInt8} {O : Out} (h : Rd e .plain s O) : (toldNames O).length ≤ s.length ∧ ∀ m ∈ toldNames O, m.length ≤ s.length := by
  cases O with
  | err no => exact ⟨by simp [toldNames], by simp [toldNames]⟩
  | ok t r =>
    have := h.wt
    have h1 := mets_len [] t.nms
    have h2 := nms_wt t
    refine ⟨by show (mets [] t.nms).length ≤ _; simp at h1; omega, fun m hm => ?_⟩
    rcases (mem_mets t.nms []).1 hm with h | h
    · simp at h
    · have := nms_len t h; omega
set_option maxHeartbeats 16000000 in
set_option maxRecDepth 100000 in
theorem expandHangs_any (s : List UInt8) (e : UInt8) (A A' : Option Addr) (n c n' c' : Nat) (vars other : List (List UInt8 × List UInt8)) (w : World) (hr : Reads w w.heap.size 2 A n (px vars)) (hv : PxLe 140737488355328 vars) (hr' : Reads w w.heap.size 2 A' n' (px other)) (hv' : PxLe 140737488355328 other) :
    Calls Try.prog 6 #[.string ⟨s.toArray⟩, .int .u8 e.toNat, .slice A n c, .slice A' n' c'] w fun x w' => x = .returned (.bool true) ∧ Below w.heap.size w w' := by
  have HF1 := Lib.hid (few_any s A n c w)
  obtain ⟨i0, hi0, hz0, hz1, hz2⟩ := info_parts infoPair
  by_cases h1 : s.length ≤ 131072 ∧ n ≤ 4096
  · rw [decide_eq_true h1] at HF1
    by_cases h2 : n' ≤ 4096
    · have b2 : decide ((4096 : Int) < (n' : Int)) = false := by rw [decide_eq_false_iff_not]; omega
      obtain ⟨O, p1⟩ := Rd.is e .plain s
      have hl : vars.length = n := by have := hr.1; rw [px_length] at this; omega
      have HL := Lib.hid hl
      have HR := Lib.hid hr
      have H3 := Lib.hid (fun w1 => names_any s e O w1 (by omega) p1)
      unfold NmsPost at H3
      have HN := Lib.hid (toldNames_le p1)
      obtain ⟨nm, hnm⟩ : ∃ nm, nm = toldNames O := ⟨_, rfl⟩
      rw [← hnm] at H3 HN
      have HNL : nm.length ≤ 131072 := Nat.le_trans HN.out.1 h1.1
      have HNM := Lib.hid hnm
      clear hl hnm
      go_enter Try.func6, Try.ntmps6
      go_wp2_with fail
      refine HF1.out.mono ?_
      rintro x w1 ⟨rfl, rfl⟩
      go_wp2_with fail
      refine (H3.out _).mono ?_
      rintro x w1 ⟨v1, rfl, ho1, hb1⟩
      obtain ⟨A1, c1, rfl, hr1⟩ := ho1.form
      have B1 := Lib.hid hb1
      have R1 := Lib.hid hr1
      clear hb1 hr1 ho1
      go_wp2_with fail
      go_loopw [10, 11] (fun v i wr => ∃ k : Nat, k ≤ nm.length ∧ i = .int .i64 k ∧ Hid (wr.ownsRow w1.heap.size 39 2 v k (px (ownP vars (nm.take k)))) ∧ Hid (Below w1.heap.size w1 wr)) (fun _ i _ => nm.length - (intOf i).toNat)
      case atStart => exact ⟨0, by omega, rfl, Lib.hid (by simpa [px, ownP] using World.ownsRow_nil _ _ _ _), Lib.hid (Below.refl _ _)⟩
      case round =>
        obtain ⟨k, hk, rfl, HO, HW⟩ := hrel
        obtain ⟨w0, hw0⟩ : ∃ w0 : World, w0 = wr := ⟨_, rfl⟩
        subst hw0
        by_cases hlt : k < nm.length
        · obtain ⟨ad, u, rfl, _, hu, hc⟩ := (R1.out.below HW.out).at_ hlt
          obtain rfl := tx_get hu hlt
          have HX := Lib.hid (ownP_succ vars nm k hlt)
          have HK : Hid (∀ wx, Below w0.heap.size w0 wx → wx.cell? (ad.add k) = some (.string ⟨(nm.getD k []).toArray⟩)) := Lib.hid (fun wx hb => by
            obtain ⟨ad', u', hA, _, hu', hc'⟩ := (R1.out.below (HW.out.trans (hb.mono HW.out.size))).at_ hlt
            obtain rfl := Option.some.inj hA
            obtain rfl := tx_get hu' hlt
            exact hc')
          clear hu hc
          generalize nm.getD k [] = p at HK HX
          go_wp2_with fail
          go_loopw [12, 13] (fun v i wr => ∃ j : Nat, j ≤ n ∧ i = .int .i64 j ∧ v = .string ⟨(valOf (vars.take j) p).toArray⟩ ∧ Hid (Below w0.heap.size w0 wr)) (fun _ i _ => n - (intOf i).toNat)
          case atStart => exact ⟨0, by omega, rfl, rfl, Lib.hid (Below.refl _ _)⟩
          case round =>
            obtain ⟨j, hj, rfl, rfl, HV⟩ := hrel
            by_cases hlt2 : j < n
            · have hkc := HK.out _ HV.out
              obtain ⟨ad2, rfl, _, k0, k1⟩ := at_pair (HR.out.below (B1.out.trans ((HW.out.trans (HV.out.mono HW.out.size)).mono B1.out.size))) hlt2
              have HT := Lib.hid (valOf_take vars j (by have := HL.out; omega) p)
              generalize (vars.getD j ([], [])).1 = y at k0 HT
              generalize (vars.getD j ([], [])).2 = z at k1 HT
              have c1 := fun wx => eq_texts y p wx
              by_cases hyp : y = p
              · have hyb : (y == p) = true := by simpa using hyp
                rw [decide_eq_true hyp] at c1
                have H9 := Lib.hid (HT.out.trans (if_pos hyp))
                clear HT
                go_wp2_with fail
                go_quiet (fail)
                have HV1 := Lib.hid (below_drewN HV.out nq)
                go_wp2
                go_roundw
                case rel => exact ⟨j + 1, by omega, by go_num, by first | (rw [H9.out]; rfl) | rw [H9.out], HV1⟩
                case measure => simp [intOf]; omega
              · have hyb : (y == p) = false := by simpa using hyp
                rw [decide_eq_false hyp] at c1
                have H9 := Lib.hid (HT.out.trans (if_neg hyp))
                clear HT
                go_wp2_with fail
                go_quiet (fail)
                have HV1 := Lib.hid (below_drewN HV.out nq)
                go_wp2
                go_roundw
                case rel => exact ⟨j + 1, by omega, by go_num, by first | (rw [H9.out]; rfl) | rw [H9.out], HV1⟩
                case measure => simp [intOf]; omega
            · have hjn : j = n := by omega
              subst hjn
              have hkc := HK.out _ HV.out
              have HO1 := Lib.hid (own_kept HO.out HV.out)
              have HW1 := Lib.hid (HW.out.trans (HV.out.mono HW.out.size))
              have hvt : valOf (vars.take j) p = valOf vars p := by rw [List.take_of_length_le (by have := HL.out; omega)]
              rw [hvt]
              clear hvt
              generalize valOf vars p = z at HX
              go_wp2_with (at_builtin; refine wpList_append_any _ rfl _ _ 29 rfl w1.heap.size 39 i0 _ 2 32 Try.underlying29 hi0 hz0 hz1 hz2 rfl (by decide) _ _ _ rfl (World.ownsRow.alloc HO1.out _) _ _ 1 1 [.string ⟨p.toArray⟩, .string ⟨z.toArray⟩] rfl (reads_new2 _ _ _) (one2 p z) (by unfold maxLen; omega) (by omega) (by have := HW1.out.size; simp; omega) ?_; intro v2 w2 hown2 hgrow2 _; have HO2 := Lib.hid hown2; have HB2 : Hid (Below w1.heap.size w1 w2) := Lib.hid (Below.grown (HW1.out.alloc HW1.out.size _) hgrow2 (by have := HW1.out.size; simp; omega) (fun j hj => (HO1.out.lt j hj).1)); clear hown2 hgrow2)
              go_roundw
              case rel => exact ⟨k + 1, by omega, by go_num, Lib.hid (by rw [HX.out, px_append]; exact HO2.out), HB2⟩
              case measure => simp [intOf]; omega
        · have hkn : k = nm.length := by omega
          subst hkn
          have ho2 := HO.out
          rw [List.take_length] at ho2
          have HO2 := Lib.hid ho2
          have BW := Lib.hid (B1.out.trans (HW.out.mono B1.out.size))
          clear ho2 HO HW
          have H1 := Lib.hid (fun wx (hb : Below w.heap.size w wx) => word_any s e A n c vars O wx (by omega) (by omega) ((hr.below hb).more hb.size) hv p1)
          have HC := Lib.hid (fun wx (hb : Below w.heap.size w wx) => copyPairs_any A' n' c' other wx ((hr'.below hb).more hb.size) (by omega))
          have HT := Lib.hid (told_own vars other O)
          have HT0 := Lib.hid (told_own vars [] O)
          have HV := Lib.hid hv
          have HV' := Lib.hid hv'
          have P1 := Lib.hid p1
          unfold ToldPost at H1
          clear hr hv hr' hv' p1
          generalize hE : errV (told (valOf vars) O).2 = E1 at H1
          have HE := Lib.hid hE
          clear hE
          go_wp2_with fail
          refine (H1.out _ BW.out).mono ?_
          rintro x w2 ⟨rfl, hb2⟩
          have B2 := Lib.hid (BW.out.trans (hb2.mono BW.out.size))
          have HO3 := Lib.hid (own_kept HO2.out hb2)
          clear hb2 HO2
          obtain ⟨A2, c2, rfl, hr2⟩ := own_readsN HO3.out
          have HLE : Hid (PxLe 140737488355328 (ownP vars nm)) := Lib.hid (ownP_le HV.out (fun m hm => by have := HN.out.2 m hm; omega))
          have HW2 := Lib.hid (word_any s e A2 nm.length c2 (ownP vars nm) O w2 (by omega) (by omega) hr2 HLE.out P1.out)
          unfold ToldPost at HW2
          have hto : told (valOf (ownP vars nm)) O = told (valOf vars) O := by rw [HNM.out]; exact HT0.out
          rw [hto, HE.out] at HW2
          clear hr2 hto
          go_wp2_with fail
          refine HW2.out.mono ?_
          rintro x w3 ⟨rfl, hb3⟩
          have B3 := Lib.hid (B2.out.trans (hb3.mono B2.out.size))
          have HO4 := Lib.hid (own_kept HO3.out hb3)
          clear hb3 HO3 HW2
          go_wp2_with fail
          refine (HC.out _ B3.out).mono ?_
          rintro x w4 ⟨v5, rfl, ho5, hb4⟩
          have B4 := Lib.hid (B3.out.trans (hb4.mono B3.out.size))
          have R4 := Lib.hid (Reads.of_own (own_kept HO4.out hb4))
          have HO5 := Lib.hid ho5
          have HB34 := Lib.hid hb4
          clear hb4 ho5 HO4
          have hone : Hid (∀ u ∈ px (ownP vars nm), u.oneCell' = true) := Lib.hid (by intro u hu; obtain ⟨q, _, hq⟩ := List.mem_flatMap.1 hu; simp at hq; rcases hq with rfl | rfl <;> rfl)
          go_wp2_with (at_builtin; refine wpList_append_any _ rfl _ _ 29 rfl w3.heap.size 39 i0 _ 2 32 Try.underlying29 hi0 hz0 hz1 hz2 rfl (by decide) _ _ _ rfl HO5.out _ _ nm.length c2 _ rfl R4.out hone.out (by unfold maxLen; omega) (by omega) (by have := HB34.out.size; omega) ?_; intro v6 w6 hown6 hgrow6 _; have HO6 := Lib.hid hown6; have HB6 : Hid (Below w3.heap.size w3 w6) := Lib.hid (Below.grown HB34.out hgrow6 (by have := HB34.out.size; omega) (fun j hj => (HO5.out.lt j hj).1)); obtain ⟨A6, c6, rfl, hr6⟩ := own_readsN hown6; have R6 := Lib.hid hr6; clear hown6 hgrow6 hr6)
          have B6 := Lib.hid (B3.out.trans (HB6.out.mono B3.out.size))
          have HLA : Hid (PxLe 140737488355328 (other ++ ownP vars nm)) := Lib.hid (fun q hq => by
            rcases List.mem_append.1 hq with h | h
            · exact HV'.out q h
            · exact HLE.out q h)
          have HW3 := Lib.hid (word_any s e A6 (n' + nm.length) c6 (other ++ ownP vars nm) O w6 (by omega) (by omega) (by rw [px_append]; exact R6.out) HLA.out P1.out)
          unfold ToldPost at HW3
          have hto : told (valOf (other ++ ownP vars nm)) O = told (valOf vars) O := by rw [HNM.out]; exact HT.out
          rw [hto, HE.out] at HW3
          clear hto
          have HNO := told_no (f := valOf vars) P1.out
          have HZ := told_zero (valOf vars) O
          have HNU := Lib.hid (fun wx => num_errV (told (valOf vars) O).2 HNO wx)
          rw [HE.out] at HNU
          clear HE HT HT0 HB6 HB34 H1 HC HO5 HO6 HLA HLE R6 R4 hone
          generalize (told (valOf vars) O).1 = x1 at HW3 HZ
          generalize (told (valOf vars) O).2 = no at HNU HNO HZ
          have heq := fun wx => eq_texts x1 x1 wx
          rw [decide_eq_true rfl] at heq
          refine HW3.out.mono ?_
          rintro x w7 ⟨rfl, hb7⟩
          have B7 := Lib.hid (B6.out.trans (hb7.mono B6.out.size))
          clear hb7 HW3
          have hz : no = 0 ∨ ((no : Int) ≠ 0 ∧ x1 = []) := by
            by_cases h : no = 0
            · exact .inl h
            · exact .inr ⟨by omega, HZ h⟩
          clear HZ
          rcases hz with rfl | ⟨hno, rfl⟩
          all_goals
            go_wp2_with fail
            refine (HNU.out _).mono ?_
            rintro x w8 ⟨rfl, hb8⟩
            have B8 := Lib.hid (B7.out.trans (hb8.mono B7.out.size))
            clear hb8
            go_wp2_with fail
            refine (HNU.out _).mono ?_
            rintro x w9 ⟨rfl, hb9⟩
            have B9 := Lib.hid (B8.out.trans (hb9.mono B8.out.size))
            clear hb9
            go_wp2_with fail
            refine (HNU.out _).mono ?_
            rintro x w10 ⟨rfl, hb10⟩
            have B10 := Lib.hid (B9.out.trans (hb10.mono B9.out.size))
            clear hb10
            go_wp2_with fail
            refine (works_any _).mono ?_
            rintro x w11 ⟨rfl, hb11⟩
            have B11 := Lib.hid (B10.out.trans (hb11.mono B10.out.size))
            clear hb11
            go_wp2_with fail
            go_ret
            exact ⟨rfl, B11.out⟩
    · have b2 : decide ((4096 : Int) < (n' : Int)) = true := by rw [decide_eq_true_iff]; omega
      clear h1 h2 hr hv hr' hv'
      go_enter Try.func6, Try.ntmps6
      go_wp2_with fail
      refine HF1.out.mono ?_
      rintro x w1 ⟨rfl, rfl⟩
      go_wp2_with fail
      go_ret
      exact ⟨rfl, Below.refl _ _⟩
  · rw [decide_eq_false h1] at HF1
    clear h1 hr hv hr' hv'
    go_enter Try.func6, Try.ntmps6
    go_wp2_with fail
    refine HF1.out.mono ?_
    rintro x w1 ⟨rfl, rfl⟩
    go_wp2_with fail
    go_ret
    exact ⟨rfl, Below.refl _ _⟩
end Exp
end Go.Proofs.Ytnmnhnhlggbijaa
