/-
  The walk of package json's Parse at this seat's translation.
-/
import Derived.Test.YtlfeddgpfaigkaaGreatDoorJsWx
import Derived.Test.YtlfeddgpfaigkaaGreatDoorJsOa
import Derived.Test.YtlfeddgpfaigkaaGreatDoorJsOo
import Derived.Test.YtlfeddgpfaigkaaGreatDoorJsOn
import Derived.Lib.OthersKept
import Derived.Laws.RangeString
namespace Go.Proofs.YtlfeddgpfaigkaaGreatDoor
open Go.RowKit
namespace Js
theorem nodes_any (s : List UInt8) (rb : Nat) (hs : s.length ≤ 4398046511104) (hrb : 9 ≤ rb) (m : Nat) : NodeC s rb m := by
  have : ∀ m, NodeC s rb m ∧ ListC s rb m ∧ ObjC s rb m := by
    intro m
    induction m using Nat.strongRecOn with
    | ind m ih =>
      have hN := node_step s rb m hs hrb (fun m' h => (ih m' h).2.1) (fun m' h => (ih m' h).2.2)
      exact ⟨hN, list_step s rb m hs hrb hN, obj_step s rb m hs hrb hN⟩
  exact (this m).1
def zeroJ : Value := .agg #[.int .i64 0, .int .i64 0, .string .empty, .slice none 0 0, .slice none 0 0]
abbrev zcells : Array Value := #[.int .i64 0, .int .i64 0, .string .empty, .slice none 0 0, .slice none 0 0]
/-- What Parse answers. -/
def PaPost (s : List UInt8) (w : World) (x : Ending) (w' : World) : Prop := match parse s with
  | .ok h k _ => ∃ iv kv bs, x = .returned (.tuple #[.agg #[.int .i64 h.kind, .int .i64 h.num, .string ⟨h.text.toArray⟩, iv, kv], .nilIface]) ∧ OT encJ w' w.heap.size 25 9 (.cons h k .nil) (jcells h iv kv) bs ∧ bs.Nodup ∧ Below w.heap.size w w'
  | .err no r => ∃ a : Nat, a + r.length = s.length ∧ x = .returned (.tuple #[zeroJ, faultV no a]) ∧ Below w.heap.size w w'
theorem pa_many {s : List UInt8} (h : 4194304 < s.length) : parse s = .err 5 s := by unfold parse; rw [if_pos h]
theorem pa_wrong {s r : List UInt8} (h : ¬ 4194304 < s.length) (hw : wrong s = some r) : parse s = .err 6 r := by unfold parse; rw [if_neg h, hw]
theorem pa_err {s r : List UInt8} {no : Nat} (h : ¬ 4194304 < s.length) (hw : wrong s = none) (hv : val 1 s = .err no r) : parse s = .err no r := by unfold parse; rw [if_neg h, hw]; simp only; rw [hv]
theorem pa_long {s r : List UInt8} {hd : Hd} {k : F} {c : UInt8} {q : List UInt8} (h : ¬ 4194304 < s.length) (hw : wrong s = none) (hv : val 1 s = .ok hd k r) (hb : bl r = c :: q) : parse s = .err 3 (c :: q) := by unfold parse; rw [if_neg h, hw]; simp only; rw [hv]; simp only; rw [hb]
theorem pa_err_post {s : List UInt8} {no : Nat} {r : List UInt8} {w w' : World} (h : parse s = .err no r) (a : Nat) (ha : a + r.length = s.length) (hb : Below w.heap.size w w') : PaPost s w (.returned (.tuple #[zeroJ, faultV no a])) w' := by unfold PaPost; rw [h]; exact ⟨a, ha, rfl, hb⟩
theorem pfx_char {t : List UInt8} (h : char t = 0) : [239, 191, 189].isPrefixOf t = false := by
  cases hp : [239, 191, 189].isPrefixOf t with
  | false => rfl
  | true =>
    rw [List.isPrefixOf_iff_prefix] at hp
    obtain ⟨u, rfl⟩ := hp
    revert h
    simp [char, cont]
theorem decode_at (s : List UInt8) (p : Nat) (hp : p < s.length) : DecOf (s.drop p) (char (s.drop p)) (Utf8.decode ⟨s.toArray⟩ p) := by
  have e : Utf8.decode ⟨s.toArray⟩ p = Lib.decodeL (s.drop p) := (Lib.decodeL_drop ⟨s.toArray⟩ p).symm
  rw [e, drop_at hp]
  exact dec_of _ _
theorem char_le (s : List UInt8) : char s ≤ s.length := by
  by_cases h : char s = 0
  · omega
  · rcases char_cases h with ⟨_, _, rfl, _, e⟩ | ⟨_, _, _, rfl, _, _, e, _⟩ | ⟨_, _, _, _, rfl, _, _, _, e, _⟩ | ⟨_, _, _, _, _, rfl, _, _, _, _, e, _⟩ <;> rw [e] <;> simp only [List.length_cons] <;> omega
theorem below_node {w wr wa w1 : World} (h : Below w.heap.size w wa) (hk : Kp wa.heap.size (· = wr.heap.size) wa w1) (hs : w.heap.size ≤ wr.heap.size) : Below w.heap.size w w1 :=
  h.trans (Kp.below ((hk.less h.size).mono (Nat.le_refl _) (fun k hk e => by omega)))
theorem wrong_step {s : List UInt8} {p : Nat} (hp : p < s.length) (h : ¬ char (s.drop p) = 0) : wrong (s.drop (p + char (s.drop p))) = wrong (s.drop p) := by
  have e : wrong (s.drop p) = wrong ((s.drop p).drop (char (s.drop p))) := by
    have h1 := h
    rw [drop_at hp] at h1 ⊢
    rw [wrong_eq, if_neg h1]
  rw [e, List.drop_drop]
theorem wrong_here {s : List UInt8} {p : Nat} (hp : p < s.length) (h : char (s.drop p) = 0) : wrong (s.drop p) = some (s.drop p) := by
  rw [drop_at hp] at h ⊢
  rw [wrong_eq, if_pos h]
-- <
set_option maxHeartbeats 16000000 in
set_option maxRecDepth 100000 in
theorem parse_any (s : List UInt8) (w : World) (hst : St w) : Calls Tryz.prog 17 #[.string ⟨s.toArray⟩] w (PaPost s w) := by
  have HST := Lib.hid hst
  clear hst
  by_cases hm : 4194304 < s.length
  · have hF := fun wx => fault_any 5 0 wx
    go_enter Tryz.func17, Tryz.ntmps17
    go_wp2_with fail
    have HB0 := Blk.new w 25 zcells
    refine (hF _).mono ?_
    rintro x w1 ⟨rfl, hb1⟩
    have HB1 := Lib.hid (Blk.below HB0 hb1 HB0.lt)
    have HZ1 := Lib.hid (((Below.refl _ w).alloc (Nat.le_refl _) (.cells zcells 25)).trans (hb1.mono (by simp)))
    clear hb1 HB0
    have f0 := HB1.out.frozen 0
    have f1 := HB1.out.frozen 1
    have f2 := HB1.out.frozen 2
    have f3 := HB1.out.frozen 3
    have f4 := HB1.out.frozen 4
    have c0 := HB1.out.cell 0
    have c1 := HB1.out.cell 1
    have c2 := HB1.out.cell 2
    have c3 := HB1.out.cell 3
    have c4 := HB1.out.cell 4
    go_wp2
    exact bodyPost_ret (results_row_tmp (p := 2) (u := 3) rfl _ _ w.heap.size 25 _ (0, 0) _ rfl (blk_set5 HB1.out) Tryz.underlying25 rfl (by kernel_rfl)) rfl (pa_err_post (pa_many hm) 0 (Nat.zero_add _) (below_set5 HZ1.out (Nat.le_refl _)))
  · go_enter Tryz.func17, Tryz.ntmps17
    go_wp2_with fail
    have HM : Hid (¬ 4194304 < s.length) := Lib.hid hm
    have HSL : Hid (s.length ≤ 4398046511104) := Lib.hid (by omega)
    go_loopg [4] (s.length + 1) (fun gk _ wr => ∃ p : Nat, p ≤ s.length ∧ s.length - p < gk ∧ Hid (wrong (s.drop p) = wrong s) ∧ Hid (wr.heap[w.heap.size + 1]? = some (.stringIter ⟨s.toArray⟩ p)) ∧ Hid (Blk wr w.heap.size 25 zcells) ∧ Hid (Below w.heap.size w wr))
    case atStart =>
      have e1 : (w.alloc (.cells zcells 25)).heap.size = w.heap.size + 1 := by simp
      refine ⟨0, by omega, by omega, Lib.hid rfl, Lib.hid ?_, Lib.hid (Blk.alloc (Blk.new w 25 zcells) _), Lib.hid (((Below.refl _ w).alloc (Nat.le_refl _) (.cells zcells 25)).alloc (by simp) _)⟩
      rw [← e1]; exact World.iter_heap _ _ _
    case round =>
      obtain ⟨p, hp, hgk, HW, HI, HB, HZ⟩ := hrel
      have HP : Hid (p ≤ s.length) := Lib.hid hp
      have HGK := Lib.hid hgk
      by_cases hlt : p < s.length
      · have hnx := fun ty => Lib.run_next_any_at (P := Tryz.prog) wr (w.heap.size + 1) ⟨s.toArray⟩ p ty HI.out hlt
        have hd := decode_at s p hlt
        obtain ⟨cv, hcv⟩ : ∃ cv, cv = (Utf8.decode ⟨s.toArray⟩ p).1 := ⟨_, rfl⟩
        obtain ⟨cn, hcn⟩ : ∃ cn, cn = (Utf8.decode ⟨s.toArray⟩ p).2 := ⟨_, rfl⟩
        rw [← hcv, ← hcn] at hnx
        obtain ⟨w1, hw1⟩ : ∃ w1, w1 = wr.iterAt (w.heap.size + 1) ⟨s.toArray⟩ (p + cn) := ⟨_, rfl⟩
        rw [← hw1] at hnx
        have HI1 : Hid (w1.heap[w.heap.size + 1]? = some (.stringIter ⟨s.toArray⟩ (p + cn))) := Lib.hid (by rw [hw1]; exact Lib.iterAt_heap _ _ _ _ _ HI.out)
        have HB1 : Hid (Blk w1 w.heap.size 25 zcells) := Lib.hid (by rw [hw1]; exact (Lib.iterAt_other wr _ _ _ _ (by omega)).trans HB.out)
        have HZ1 : Hid (Below w.heap.size w w1) := Lib.hid (by rw [hw1]; exact Lib.below_iterAt HZ.out (by omega) _ _)
        clear hw1
        by_cases hc0 : char (s.drop p) = 0
        · have h2 : cv = 65533 ∧ cn = 1 := by
            rcases hd with ⟨_, e⟩ | ⟨h, _⟩
            · rw [e] at hcv hcn; exact ⟨hcv, hcn⟩
            · exact absurd hc0 h
          obtain ⟨rfl, rfl⟩ := h2
          have HC := Lib.hid (fun wx => prefix_any (s.drop p) [239, 191, 189] wx)
          rw [pfx_char hc0] at HC
          have hsl := fun wx => run_slice_from_list Tryz.underlying9 s .i64 p p rfl hp wx
          clear hd hcv hcn HB HI HZ
          go_wp2_with fail
          refine (HC.out _).mono ?_
          rintro x w2 ⟨rfl, rfl⟩
          have hF := fun wx => fault_any 6 p wx
          go_wp2_with fail
          refine (hF _).mono ?_
          rintro x w2 ⟨rfl, hb2⟩
          have HB2 := Lib.hid (Blk.below HB1.out hb2 HB1.out.lt)
          have HZ2 := Lib.hid (HZ1.out.trans (hb2.mono HZ1.out.size))
          clear hb2 HB1
          have f0 := HB2.out.frozen 0
          have f1 := HB2.out.frozen 1
          have f2 := HB2.out.frozen 2
          have f3 := HB2.out.frozen 3
          have f4 := HB2.out.frozen 4
          have c0 := HB2.out.cell 0
          have c1 := HB2.out.cell 1
          have c2 := HB2.out.cell 2
          have c3 := HB2.out.cell 3
          have c4 := HB2.out.cell 4
          go_wp2
          exact bodyPost_ret (results_row_tmp (p := 2) (u := 3) rfl _ _ w.heap.size 25 _ (0, 0) _ rfl (blk_set5 HB2.out) Tryz.underlying25 rfl (by kernel_rfl)) rfl (pa_err_post (pa_wrong HM.out (by rw [← HW.out]; exact wrong_here hlt hc0)) p (by rw [List.length_drop]; omega) (below_set5 HZ2.out (Nat.le_refl _)))
        · have h2 : cn = char (s.drop p) ∧ (cv = 65533 → [239, 191, 189].isPrefixOf (s.drop p) = true) := by
            rcases hd with ⟨h, _⟩ | ⟨_, e, f⟩
            · exact absurd h hc0
            · rw [← hcn] at e; rw [← hcv] at f; exact ⟨e, f⟩
          clear hd hcv hcn HB HI HZ
          by_cases h5 : cv = 65533
          · have HC := Lib.hid (fun wx => prefix_any (s.drop p) [239, 191, 189] wx)
            rw [h2.2 h5] at HC
            subst h5
            have hsl := fun wx => run_slice_from_list Tryz.underlying9 s .i64 p p rfl hp wx
            go_wp2_with fail
            refine (HC.out _).mono ?_
            rintro x w2 ⟨rfl, rfl⟩
            go_wp2_with fail
            go_roundg (gk - 1)
            case measure => omega
            case rel =>
              have hle := char_le (s.drop p)
              rw [List.length_drop] at hle
              refine ⟨p + cn, ?_, ?_, Lib.hid ?_, HI1, HB1, HZ1⟩
              · have := h2.1; omega
              · have := h2.1; have := HGK.out; omega
              · rw [h2.1, wrong_step hlt hc0]; exact HW.out
          · have hne : ((cv : Int) = 65533) = False := by rw [eq_iff_iff, iff_false]; omega
            go_wp2_with fail
            go_roundg (gk - 1)
            case measure => omega
            case rel =>
              have hle := char_le (s.drop p)
              rw [List.length_drop] at hle
              refine ⟨p + cn, ?_, ?_, Lib.hid ?_, HI1, HB1, HZ1⟩
              · have := h2.1; omega
              · have := h2.1; have := HGK.out; omega
              · rw [h2.1, wrong_step hlt hc0]; exact HW.out
      · have hnx := fun ty => Lib.run_next_end_at (P := Tryz.prog) wr (w.heap.size + 1) ⟨s.toArray⟩ p ty HI.out (by simp only [ByteArray.size, List.size_toArray]; exact hlt)
        have HWN2 : Hid (wrong s = none) := Lib.hid (by
          have e : p = s.length := by omega
          have := HW.out
          rw [e, List.drop_length] at this
          exact this.symm)
        have hsz := HZ.out.size
        have HSTR := HST.out.below HZ.out
        obtain ⟨wa, hwa⟩ : ∃ wa, wa = wr.alloc (.cells #[.string ⟨s.toArray⟩, .int .i64 0] 115) := ⟨_, rfl⟩
        have HRA : Hid (Rdr wa wr.heap.size s 0) := Lib.hid (by rw [hwa]; exact Blk.new _ _ _)
        have HBA : Hid (Blk wa w.heap.size 25 zcells) := Lib.hid (by rw [hwa]; exact Blk.alloc HB.out _)
        have HZA : Hid (Below w.heap.size w wa) := Lib.hid (by rw [hwa]; exact HZ.out.alloc hsz _)
        have HSA : Hid (wa.heap.size = wr.heap.size + 1) := Lib.hid (by rw [hwa]; simp)
        have hbl : w.heap.size < wr.heap.size := HB.out.lt
        have hrb : 9 ≤ wr.heap.size := Nat.le_trans HST.out.size hsz
        have HC := Lib.hid (nodes_any s wr.heap.size HSL.out hrb (s.length - 0) 0 1 wa (Nat.zero_le _) (Nat.le_refl _) (by decide) (HST.out.below HZA.out) HRA.out)
        rw [List.drop_zero] at HC
        clear HI HB HZ HSTR HW
        go_wp2_with fail
        rw [← hwa]
        clear hwa
        cases hV : val 1 s with
        | err no r =>
          rw [hV] at HC
          refine HC.out.mono ?_
          rintro x w1 ⟨u, q2, a, rfl, hlen, hq2, hr2, hk2⟩
          have HB1 := Lib.hid (hk2.blk HBA.out (by have := HSA.out; omega) (by omega))
          have HZ1 := Lib.hid (below_node HZA.out hk2 hsz)
          have HLen := Lib.hid hlen
          have HVV := Lib.hid hV
          clear hr2 hk2 hlen HC HBA hV
          unfold faultV
          have f0 := HB1.out.frozen 0
          have f1 := HB1.out.frozen 1
          have f2 := HB1.out.frozen 2
          have f3 := HB1.out.frozen 3
          have f4 := HB1.out.frozen 4
          have c0 := HB1.out.cell 0
          have c1 := HB1.out.cell 1
          have c2 := HB1.out.cell 2
          have c3 := HB1.out.cell 3
          have c4 := HB1.out.cell 4
          go_wp2
          exact bodyPost_ret (results_row_tmp (p := 2) (u := 3) rfl _ _ w.heap.size 25 _ (0, 0) _ rfl (blk_set5 HB1.out) Tryz.underlying25 rfl (by kernel_rfl)) rfl (pa_err_post (pa_err HM.out HWN2.out HVV.out) a HLen.out (below_set5 HZ1.out (Nat.le_refl _)))
        | ok h k r =>
          rw [hV] at HC
          have hvs := val_sz hV
          have hvt := val_trim hV
          refine HC.out.mono ?_
          rintro x w1 ⟨u, q, S, rfl, htv, hS, hq, rfl, hr1, hk1⟩
          have HB1 := Lib.hid (hk1.blk HBA.out (by have := HSA.out; omega) (by omega))
          have HZ1 := Lib.hid (below_node HZA.out hk1 hsz)
          have HS1 : Hid (wr.heap.size < w1.heap.size) := Lib.hid (by have := hk1.size; have := HSA.out; omega)
          have HSS : Hid (∀ b, S b → wr.heap.size < b ∧ b < w1.heap.size) := Lib.hid (fun b hb => by have := hS b hb; have := HSA.out; omega)
          have HTV := Lib.hid htv
          have HVV := Lib.hid hV
          have HVS := Lib.hid hvs
          have HVT := Lib.hid hvt
          obtain ⟨T0, y0, rfl⟩ := htv.iface
          have HCB := Lib.hid (blanks_any s HSL.out q wr.heap.size hq w1 hr1)
          clear hr1 hk1 HC HBA hV htv hS hvs hvt
          go_wp2_with fail
          refine HCB.out.mono ?_
          rintro x w2 ⟨q2, rfl, hpq, hq2, he, hr2, hk2⟩
          have HB2 := Lib.hid (hk2.blk HB1.out (by have := HS1.out; omega) (by omega))
          have HZ2 := Lib.hid (HZ1.out.trans (Kp.below ((hk2.less HZ1.out.size).mono (Nat.le_refl _) (fun k hk e => by omega))))
          have HR2 := Lib.hid hr2
          have HTV2 := Lib.hid (HTV.out.kept (w' := w2) (fun p hp => hk2.cell (HSS.out _ hp).2 (by have := (HSS.out _ hp).1; omega)))
          have HS2 : Hid (wr.heap.size < w2.heap.size) := Lib.hid (by have := hk2.size; have := HS1.out; omega)
          have HSS2 : Hid (∀ b, S b → b < w2.heap.size) := Lib.hid (fun b hb => by have := HSS.out b hb; have := hk2.size; omega)
          clear hr2 hk2 HTV HB1 HCB
          by_cases hlt2 : q2 < s.length
          · have hF := fun wx => fault_any 3 q2 wx
            have c1 := HR2.out.c1
            have HPE : Hid (parse s = .err 3 (s.drop q2)) := Lib.hid (by
              have e : bl (s.drop q) = s.getD q2 0 :: s.drop (q2 + 1) := by rw [← he, drop_at hlt2]
              have := pa_long HM.out HWN2.out HVV.out e
              rw [this, drop_at hlt2])
            have hb : decide (q2 < s.length) = true := decide_eq_true hlt2
            rw [hb]
            go_wp2_with fail
            refine (hF _).mono ?_
            rintro x w3 ⟨rfl, hb3⟩
            have HB3 := Lib.hid (Blk.below HB2.out hb3 HB2.out.lt)
            have HZ3 := Lib.hid (HZ2.out.trans (hb3.mono HZ2.out.size))
            clear hb3 HB2 c1 hF
            have f0 := HB3.out.frozen 0
            have f1 := HB3.out.frozen 1
            have f2 := HB3.out.frozen 2
            have f3 := HB3.out.frozen 3
            have f4 := HB3.out.frozen 4
            have c0 := HB3.out.cell 0
            have c1 := HB3.out.cell 1
            have c2 := HB3.out.cell 2
            have c3 := HB3.out.cell 3
            have c4 := HB3.out.cell 4
            go_wp2
            exact bodyPost_ret (results_row_tmp (p := 2) (u := 3) rfl _ _ w.heap.size 25 _ (0, 0) _ rfl (blk_set5 HB3.out) Tryz.underlying25 rfl (by kernel_rfl)) rfl (pa_err_post HPE.out q2 (by rw [List.length_drop]; omega) (below_set5 HZ3.out (Nat.le_refl _)))
          · have hb : decide (q2 < s.length) = false := decide_eq_false hlt2
            rw [hb]
            have HPO : Hid (parse s = .ok h k []) := Lib.hid (by
              have e2 : q2 = s.length := by omega
              rw [e2, List.drop_length] at he
              exact parse_of (by have := HM.out; omega) HWN2.out HVV.out he.symm)
            obtain ⟨T, v, fn, e0, hmeth, hcf, hcall⟩ := node_value (k.sz + 1) (fun m h2 => vals_any m (by have := HVS.out; have := HM.out; omega)) HTV2.out HVT.out.1 HVT.out.2 HSS2.out (by omega)
            injection e0 with e1 e2
            subst e1 e2
            have HCL := Lib.hid hcall
            clear HTV2 hcall
            go_wp2_with fail
            refine HCL.out.mono ?_
            rintro x w3 ⟨iv, kv, bs, rfl, hot, hnd, hb3⟩
            have HB3 := Lib.hid (Blk.below HB2.out hb3 HB2.out.lt)
            have HZ3 := Lib.hid (HZ2.out.trans (hb3.mono HZ2.out.size))
            obtain ⟨⟨A1, c1', rfl⟩, A2, c2', rfl⟩ := ot_form hot
            have HOT := Lib.hid hot
            have HLT : Hid (∀ b ∈ bs, w.heap.size < b) := Lib.hid (fun b hb => by have := (hot.lt b hb).1; have := HS2.out; omega)
            clear hb3 HB2 hot HCL hcf hmeth
            have f0 := HB3.out.frozen 0
            have f1 := HB3.out.frozen 1
            have f2 := HB3.out.frozen 2
            have f3 := HB3.out.frozen 3
            have f4 := HB3.out.frozen 4
            have c0 := HB3.out.cell 0
            have c1 := HB3.out.cell 1
            have c2 := HB3.out.cell 2
            have c3 := HB3.out.cell 3
            have c4 := HB3.out.cell 4
            go_wp2
            refine bodyPost_ret (results_row_tmp (p := 2) (u := 3) rfl _ _ w.heap.size 25 _ (0, 0) _ rfl (blk_set5 HB3.out) Tryz.underlying25 rfl (by kernel_rfl)) rfl ?_
            unfold PaPost
            rw [HPO.out]
            exact ⟨_, _, bs, rfl, (HOT.out.less HZ2.out.size).kept (fun b hb => heap_set5 b (by have := HLT.out b hb; omega)), hnd, below_set5 HZ3.out (Nat.le_refl _)⟩
-- >
end Js
end Go.Proofs.YtlfeddgpfaigkaaGreatDoor
