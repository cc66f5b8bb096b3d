/-
  Parts of the proof: JsPa, JsGe.
-/
import Derived.Test.YtjohdaobhonioaaGreatDoorPkFo10
import Derived.Test.YtjohdaobhonioaaGreatDoorPkFo8
import Derived.Test.YtjohdaobhonioaaGreatDoorPkFo22
import Derived.Test.YtjohdaobhonioaaGreatDoorPkFo24
import Derived.Lib.OthersKept
import Derived.Laws.RangeString
import Derived.Test.YtjohdaobhonioaaGreatDoorPkFo21
import Derived.Test.YtjohdaobhonioaaGreatDoorPkFo0
namespace Go.Proofs.YtjohdaobhonioaaGreatDoor
open Go.RowKit
namespace Js
theorem nodes_any (s : List UInt8) (rb : Nat) (hs : s.length ≤ 4398046511104) (hrb : 11 ≤ rb) (m : Nat) : NodeC s rb m := by
 have : ∀ m, NodeC s rb m /\ ListC s rb m /\ ObjC s rb m := by
  intro m
  induction m using Nat.strongRecOn with
  | ind m ih =>
   have hN := node_step s rb m hs hrb (fun m' h => (ih m' h).2.1) (fun m' h => (ih m' h).2.2)
   exact ⟨hN, list_step s rb m hs hrb hN, obj_step s rb m hs hrb hN⟩
 exact (this m).1
def zeroJ : Value := .agg #[.int .i64 0, .int .i64 0, .string .empty, .slice none 0 0, .slice none 0 0]
abbrev zcells : Array Value := #[.int .i64 0, .int .i64 0, .string .empty, .slice none 0 0, .slice none 0 0]
def PaPost (s : List UInt8) (w : World) (x : Ending) (w' : World) : Prop := match parse s with
 | .ok h k _ => ∃ iv kv bs, x = .returned (.tuple #[.agg #[.int .i64 h.kind, .int .i64 h.num, .string ⟨h.text.toArray⟩, iv, kv], .nilIface]) /\ OT encJ w' w.heap.size 54 9 (.cons h k .nil) (jcells h iv kv) bs /\ bs.Nodup /\ Below w.heap.size w w'
 | .err no r => ∃ a : Nat, a + r.length = s.length /\ x = .returned (.tuple #[zeroJ, faultV no a]) /\ Below w.heap.size w w'
theorem pa_many {s : List UInt8} (h : 4194304 < s.length) : parse s = .err 5 s := by unfold parse; rw [if_pos h]
theorem pa_wrong {s r : List UInt8} (h : ¬ 4194304 < s.length) (hw : wrong s = some r) : parse s = .err 6 r := by unfold parse; rw [if_neg h, hw]
theorem pa_err {s r : List UInt8} {no : Nat} (h : ¬ 4194304 < s.length) (hw : wrong s = none) (hv : val 1 s = .err no r) : parse s = .err no r := by unfold parse; rw [if_neg h, hw]; simp only; rw [hv]
theorem pa_long {s r : List UInt8} {hd : Hd} {k : F} {c : UInt8} {q : List UInt8} (h : ¬ 4194304 < s.length) (hw : wrong s = none) (hv : val 1 s = .ok hd k r) (hb : bl r = c :: q) : parse s = .err 3 (c :: q) := by unfold parse; rw [if_neg h, hw]; simp only; rw [hv]; simp only; rw [hb]
theorem pa_err_post {s : List UInt8} {no : Nat} {r : List UInt8} {w w' : World} (h : parse s = .err no r) (a : Nat) (ha : a + r.length = s.length) (hb : Below w.heap.size w w') : PaPost s w (.returned (.tuple #[zeroJ, faultV no a])) w' := by unfold PaPost; rw [h]; exact ⟨a, ha, rfl, hb⟩
theorem pfx_char {t : List UInt8} (h : char t = 0) : [239, 191, 189].isPrefixOf t = false := by
 cases hp : [239, 191, 189].isPrefixOf t with
 | false => rfl
 | true =>
  rw [List.isPrefixOf_iff_prefix] at hp
  obtain ⟨u, rfl⟩ := hp
  revert h
  simp [char, cont]
theorem decode_at (s : List UInt8) (p : Nat) (hp : p < s.length) : DecOf (s.drop p) (char (s.drop p)) (Utf8.decode ⟨s.toArray⟩ p) := by
 have e : Utf8.decode ⟨s.toArray⟩ p = Lib.decodeL (s.drop p) := (Lib.decodeL_drop ⟨s.toArray⟩ p).symm
 rw [e, drop_at hp]
 exact dec_of _ _
theorem char_le (s : List UInt8) : char s ≤ s.length := by
 by_cases h : char s = 0
 . omega
 . rcases char_cases h with ⟨_, _, rfl, _, e⟩ | ⟨_, _, _, rfl, _, _, e, _⟩ | ⟨_, _, _, _, rfl, _, _, _, e, _⟩ | ⟨_, _, _, _, _, rfl, _, _, _, _, e, _⟩ <;> rw [e] <;> simp only [List.length_cons] <;> omega
theorem below_node {w wr wa w1 : World} (h : Below w.heap.size w wa) (hk : Kp wa.heap.size (· = wr.heap.size) wa w1) (hs : w.heap.size ≤ wr.heap.size) : Below w.heap.size w w1 :=
 h.trans (Kp.below ((hk.less h.size).mono (Nat.le_refl _) (fun k hk e => by omega)))
theorem wrong_step {s : List UInt8} {p : Nat} (hp : p < s.length) (h : ¬ char (s.drop p) = 0) : wrong (s.drop (p + char (s.drop p))) = wrong (s.drop p) := by
 have e : wrong (s.drop p) = wrong ((s.drop p).drop (char (s.drop p))) := by
  have h1 := h
  rw [drop_at hp] at h1 ⊢
  rw [wrong_eq, if_neg h1]
 rw [e, List.drop_drop]
theorem wrong_here {s : List UInt8} {p : Nat} (hp : p < s.length) (h : char (s.drop p) = 0) : wrong (s.drop p) = some (s.drop p) := by
 rw [drop_at hp] at h ⊢
 rw [wrong_eq, if_pos h]
-- <
set_option maxHeartbeats 16000000 in
set_option maxRecDepth 100000 in
theorem parse_any (s : List UInt8) (w : World) (hst : St w) : Calls Tryz.prog 20 #[.string ⟨s.toArray⟩] w (PaPost s w) := by
 have HST := Lib.hid hst
 clear hst
 by_cases hm : 4194304 < s.length
 . have hF := fun wx => fault_any 5 0 wx
   go_enter Tryz.func20, Tryz.ntmps20
   go_wp2_with fail
   have HB0 := Blk.new w 54 zcells
   refine (hF _).mono ?_
   rintro x w1 ⟨rfl, hb1⟩
   have HB1 := Lib.hid (Blk.below HB0 hb1 HB0.lt)
   have HZ1 := Lib.hid (((Below.refl _ w).alloc (Nat.le_refl _) (.cells zcells 54)).trans (hb1.mono (by simp)))
   clear hb1 HB0
   have f0 := HB1.out.frozen 0
   have f1 := HB1.out.frozen 1
   have f2 := HB1.out.frozen 2
   have f3 := HB1.out.frozen 3
   have f4 := HB1.out.frozen 4
   have c0 := HB1.out.cell 0
   have c1 := HB1.out.cell 1
   have c2 := HB1.out.cell 2
   have c3 := HB1.out.cell 3
   have c4 := HB1.out.cell 4
   go_wp2
   exact bodyPost_ret (results_row_tmp (p := 2) (u := 3) rfl _ _ w.heap.size 54 _ (0, 0) _ rfl (blk_set5 HB1.out) Tryz.underlying54 rfl (by kernel_rfl)) rfl (pa_err_post (pa_many hm) 0 (Nat.zero_add _) (below_set5 HZ1.out (Nat.le_refl _)))
 . go_enter Tryz.func20, Tryz.ntmps20
   go_wp2_with fail
   have HM : Hid (¬ 4194304 < s.length) := Lib.hid hm
   have HSL : Hid (s.length ≤ 4398046511104) := Lib.hid (by omega)
   go_loopg [4] (s.length + 1) (fun gk _ wr => ∃ p : Nat, p ≤ s.length /\ s.length - p < gk /\ Hid (wrong (s.drop p) = wrong s) /\ Hid (wr.heap[w.heap.size + 1]? = some (.stringIter ⟨s.toArray⟩ p)) /\ Hid (Blk wr w.heap.size 54 zcells) /\ Hid (Below w.heap.size w wr))
   case atStart =>
    have e1 : (w.alloc (.cells zcells 54)).heap.size = w.heap.size + 1 := by simp
    refine ⟨0, by omega, by omega, Lib.hid rfl, Lib.hid ?_, Lib.hid (Blk.alloc (Blk.new w 54 zcells) _), Lib.hid (((Below.refl _ w).alloc (Nat.le_refl _) (.cells zcells 54)).alloc (by simp) _)⟩
    rw [<- e1]; exact World.iter_heap _ _ _
   case round =>
    obtain ⟨p, hp, hgk, HW, HI, HB, HZ⟩ := hrel
    have HP : Hid (p ≤ s.length) := Lib.hid hp
    have HGK := Lib.hid hgk
    by_cases hlt : p < s.length
    . have hnx := fun ty => Lib.run_next_any_at (P := Tryz.prog) wr (w.heap.size + 1) ⟨s.toArray⟩ p ty HI.out hlt
      have hd := decode_at s p hlt
      obtain ⟨cv, hcv⟩ : ∃ cv, cv = (Utf8.decode ⟨s.toArray⟩ p).1 := ⟨_, rfl⟩
      obtain ⟨cn, hcn⟩ : ∃ cn, cn = (Utf8.decode ⟨s.toArray⟩ p).2 := ⟨_, rfl⟩
      rw [<- hcv, <- hcn] at hnx
      obtain ⟨w1, hw1⟩ : ∃ w1, w1 = wr.iterAt (w.heap.size + 1) ⟨s.toArray⟩ (p + cn) := ⟨_, rfl⟩
      rw [<- hw1] at hnx
      have HI1 : Hid (w1.heap[w.heap.size + 1]? = some (.stringIter ⟨s.toArray⟩ (p + cn))) := Lib.hid (by rw [hw1]; exact Lib.iterAt_heap _ _ _ _ _ HI.out)
      have HB1 : Hid (Blk w1 w.heap.size 54 zcells) := Lib.hid (by rw [hw1]; exact (Lib.iterAt_other wr _ _ _ _ (by omega)).trans HB.out)
      have HZ1 : Hid (Below w.heap.size w w1) := Lib.hid (by rw [hw1]; exact Lib.below_iterAt HZ.out (by omega) _ _)
      clear hw1
      by_cases hc0 : char (s.drop p) = 0
      . have h2 : cv = 65533 /\ cn = 1 := by
          rcases hd with ⟨_, e⟩ | ⟨h, _⟩
          . rw [e] at hcv hcn; exact ⟨hcv, hcn⟩
          . exact absurd hc0 h
        obtain ⟨rfl, rfl⟩ := h2
        have HC := Lib.hid (fun wx => prefix_any (s.drop p) [239, 191, 189] wx)
        rw [pfx_char hc0] at HC
        have hsl := fun wx => run_slice_from_list Tryz.underlying9 s .i64 p p rfl hp wx
        clear hd hcv hcn HB HI HZ
        go_wp2_with fail
        refine (HC.out _).mono ?_
        rintro x w2 ⟨rfl, rfl⟩
        have hF := fun wx => fault_any 6 p wx
        go_wp2_with fail
        refine (hF _).mono ?_
        rintro x w2 ⟨rfl, hb2⟩
        have HB2 := Lib.hid (Blk.below HB1.out hb2 HB1.out.lt)
        have HZ2 := Lib.hid (HZ1.out.trans (hb2.mono HZ1.out.size))
        clear hb2 HB1
        have f0 := HB2.out.frozen 0
        have f1 := HB2.out.frozen 1
        have f2 := HB2.out.frozen 2
        have f3 := HB2.out.frozen 3
        have f4 := HB2.out.frozen 4
        have c0 := HB2.out.cell 0
        have c1 := HB2.out.cell 1
        have c2 := HB2.out.cell 2
        have c3 := HB2.out.cell 3
        have c4 := HB2.out.cell 4
        go_wp2
        exact bodyPost_ret (results_row_tmp (p := 2) (u := 3) rfl _ _ w.heap.size 54 _ (0, 0) _ rfl (blk_set5 HB2.out) Tryz.underlying54 rfl (by kernel_rfl)) rfl (pa_err_post (pa_wrong HM.out (by rw [<- HW.out]; exact wrong_here hlt hc0)) p (by rw [List.length_drop]; omega) (below_set5 HZ2.out (Nat.le_refl _)))
      . have h2 : cn = char (s.drop p) /\ (cv = 65533 -> [239, 191, 189].isPrefixOf (s.drop p) = true) := by
          rcases hd with ⟨h, _⟩ | ⟨_, e, f⟩
          . exact absurd h hc0
          . rw [<- hcn] at e; rw [<- hcv] at f; exact ⟨e, f⟩
        clear hd hcv hcn HB HI HZ
        by_cases h5 : cv = 65533
        . have HC := Lib.hid (fun wx => prefix_any (s.drop p) [239, 191, 189] wx)
          rw [h2.2 h5] at HC
          subst h5
          have hsl := fun wx => run_slice_from_list Tryz.underlying9 s .i64 p p rfl hp wx
          go_wp2_with fail
          refine (HC.out _).mono ?_
          rintro x w2 ⟨rfl, rfl⟩
          go_wp2_with fail
          go_roundg (gk - 1)
          case measure => omega
          case rel =>
            have hle := char_le (s.drop p)
            rw [List.length_drop] at hle
            refine ⟨p + cn, ?_, ?_, Lib.hid ?_, HI1, HB1, HZ1⟩
            . have := h2.1; omega
            . have := h2.1; have := HGK.out; omega
            . rw [h2.1, wrong_step hlt hc0]; exact HW.out
        . have hne : ((cv : Int) = 65533) = False := by rw [eq_iff_iff, iff_false]; omega
          go_wp2_with fail
          go_roundg (gk - 1)
          case measure => omega
          case rel =>
            have hle := char_le (s.drop p)
            rw [List.length_drop] at hle
            refine ⟨p + cn, ?_, ?_, Lib.hid ?_, HI1, HB1, HZ1⟩
            . have := h2.1; omega
            . have := h2.1; have := HGK.out; omega
            . rw [h2.1, wrong_step hlt hc0]; exact HW.out
    . have hnx := fun ty => Lib.run_next_end_at (P := Tryz.prog) wr (w.heap.size + 1) ⟨s.toArray⟩ p ty HI.out (by simp only [ByteArray.size, List.size_toArray]; exact hlt)
      have HWN2 : Hid (wrong s = none) := Lib.hid (by
        have e : p = s.length := by omega
        have := HW.out
        rw [e, List.drop_length] at this
        exact this.symm)
      have hsz := HZ.out.size
      have HSTR := HST.out.below HZ.out
      obtain ⟨wa, hwa⟩ : ∃ wa, wa = wr.alloc (.cells #[.string ⟨s.toArray⟩, .int .i64 0] 127) := ⟨_, rfl⟩
      have HRA : Hid (Rdr wa wr.heap.size s 0) := Lib.hid (by rw [hwa]; exact Blk.new _ _ _)
      have HBA : Hid (Blk wa w.heap.size 54 zcells) := Lib.hid (by rw [hwa]; exact Blk.alloc HB.out _)
      have HZA : Hid (Below w.heap.size w wa) := Lib.hid (by rw [hwa]; exact HZ.out.alloc hsz _)
      have HSA : Hid (wa.heap.size = wr.heap.size + 1) := Lib.hid (by rw [hwa]; simp)
      have hbl : w.heap.size < wr.heap.size := HB.out.lt
      have hrb : 11 ≤ wr.heap.size := Nat.le_trans HST.out.size hsz
      have HC := Lib.hid (nodes_any s wr.heap.size HSL.out hrb (s.length - 0) 0 1 wa (Nat.zero_le _) (Nat.le_refl _) (by decide) (HST.out.below HZA.out) HRA.out)
      rw [List.drop_zero] at HC
      clear HI HB HZ HSTR HW
      go_wp2_with fail
      rw [<- hwa]
      clear hwa
      cases hV : val 1 s with
      | err no r =>
        rw [hV] at HC
        refine HC.out.mono ?_
        rintro x w1 ⟨u, q2, a, rfl, hlen, hq2, hr2, hk2⟩
        have HB1 := Lib.hid (hk2.blk HBA.out (by have := HSA.out; omega) (by omega))
        have HZ1 := Lib.hid (below_node HZA.out hk2 hsz)
        have HLen := Lib.hid hlen
        have HVV := Lib.hid hV
        clear hr2 hk2 hlen HC HBA hV
        unfold faultV
        have f0 := HB1.out.frozen 0
        have f1 := HB1.out.frozen 1
        have f2 := HB1.out.frozen 2
        have f3 := HB1.out.frozen 3
        have f4 := HB1.out.frozen 4
        have c0 := HB1.out.cell 0
        have c1 := HB1.out.cell 1
        have c2 := HB1.out.cell 2
        have c3 := HB1.out.cell 3
        have c4 := HB1.out.cell 4
        go_wp2
        exact bodyPost_ret (results_row_tmp (p := 2) (u := 3) rfl _ _ w.heap.size 54 _ (0, 0) _ rfl (blk_set5 HB1.out) Tryz.underlying54 rfl (by kernel_rfl)) rfl (pa_err_post (pa_err HM.out HWN2.out HVV.out) a HLen.out (below_set5 HZ1.out (Nat.le_refl _)))
      | ok h k r =>
        rw [hV] at HC
        have hvs := val_sz hV
        have hvt := val_trim hV
        refine HC.out.mono ?_
        rintro x w1 ⟨u, q, S, rfl, htv, hS, hq, rfl, hr1, hk1⟩
        have HB1 := Lib.hid (hk1.blk HBA.out (by have := HSA.out; omega) (by omega))
        have HZ1 := Lib.hid (below_node HZA.out hk1 hsz)
        have HS1 : Hid (wr.heap.size < w1.heap.size) := Lib.hid (by have := hk1.size; have := HSA.out; omega)
        have HSS : Hid (∀ b, S b -> wr.heap.size < b /\ b < w1.heap.size) := Lib.hid (fun b hb => by have := hS b hb; have := HSA.out; omega)
        have HTV := Lib.hid htv
        have HVV := Lib.hid hV
        have HVS := Lib.hid hvs
        have HVT := Lib.hid hvt
        obtain ⟨T0, y0, rfl⟩ := htv.iface
        have HCB := Lib.hid (blanks_any s HSL.out q wr.heap.size hq w1 hr1)
        clear hr1 hk1 HC HBA hV htv hS hvs hvt
        go_wp2_with fail
        refine HCB.out.mono ?_
        rintro x w2 ⟨q2, rfl, hpq, hq2, he, hr2, hk2⟩
        have HB2 := Lib.hid (hk2.blk HB1.out (by have := HS1.out; omega) (by omega))
        have HZ2 := Lib.hid (HZ1.out.trans (Kp.below ((hk2.less HZ1.out.size).mono (Nat.le_refl _) (fun k hk e => by omega))))
        have HR2 := Lib.hid hr2
        have HTV2 := Lib.hid (HTV.out.kept (w' := w2) (fun p hp => hk2.cell (HSS.out _ hp).2 (by have := (HSS.out _ hp).1; omega)))
        have HS2 : Hid (wr.heap.size < w2.heap.size) := Lib.hid (by have := hk2.size; have := HS1.out; omega)
        have HSS2 : Hid (∀ b, S b -> b < w2.heap.size) := Lib.hid (fun b hb => by have := HSS.out b hb; have := hk2.size; omega)
        clear hr2 hk2 HTV HB1 HCB
        by_cases hlt2 : q2 < s.length
        . have hF := fun wx => fault_any 3 q2 wx
          have c1 := HR2.out.c1
          have HPE : Hid (parse s = .err 3 (s.drop q2)) := Lib.hid (by
            have e : bl (s.drop q) = s.getD q2 0 :: s.drop (q2 + 1) := by rw [<- he, drop_at hlt2]
            have := pa_long HM.out HWN2.out HVV.out e
            rw [this, drop_at hlt2])
          have hb : decide (q2 < s.length) = true := decide_eq_true hlt2
          rw [hb]
          go_wp2_with fail
          refine (hF _).mono ?_
          rintro x w3 ⟨rfl, hb3⟩
          have HB3 := Lib.hid (Blk.below HB2.out hb3 HB2.out.lt)
          have HZ3 := Lib.hid (HZ2.out.trans (hb3.mono HZ2.out.size))
          clear hb3 HB2 c1 hF
          have f0 := HB3.out.frozen 0
          have f1 := HB3.out.frozen 1
          have f2 := HB3.out.frozen 2
          have f3 := HB3.out.frozen 3
          have f4 := HB3.out.frozen 4
          have c0 := HB3.out.cell 0
          have c1 := HB3.out.cell 1
          have c2 := HB3.out.cell 2
          have c3 := HB3.out.cell 3
          have c4 := HB3.out.cell 4
          go_wp2
          exact bodyPost_ret (results_row_tmp (p := 2) (u := 3) rfl _ _ w.heap.size 54 _ (0, 0) _ rfl (blk_set5 HB3.out) Tryz.underlying54 rfl (by kernel_rfl)) rfl (pa_err_post HPE.out q2 (by rw [List.length_drop]; omega) (below_set5 HZ3.out (Nat.le_refl _)))
        . have hb : decide (q2 < s.length) = false := decide_eq_false hlt2
          rw [hb]
          have HPO : Hid (parse s = .ok h k []) := Lib.hid (by
            have e2 : q2 = s.length := by omega
            rw [e2, List.drop_length] at he
            exact parse_of (by have := HM.out; omega) HWN2.out HVV.out he.symm)
          obtain ⟨T, v, fn, e0, hmeth, hcf, hcall⟩ := node_value (k.sz + 1) (fun m h2 => vals_any m (by have := HVS.out; have := HM.out; omega)) HTV2.out HVT.out.1 HVT.out.2 HSS2.out (by omega)
          injection e0 with e1 e2
          subst e1 e2
          have HCL := Lib.hid hcall
          clear HTV2 hcall
          go_wp2_with fail
          refine HCL.out.mono ?_
          rintro x w3 ⟨iv, kv, bs, rfl, hot, hnd, hb3⟩
          have HB3 := Lib.hid (Blk.below HB2.out hb3 HB2.out.lt)
          have HZ3 := Lib.hid (HZ2.out.trans (hb3.mono HZ2.out.size))
          obtain ⟨⟨A1, c1', rfl⟩, A2, c2', rfl⟩ := ot_form hot
          have HOT := Lib.hid hot
          have HLT : Hid (∀ b ∈ bs, w.heap.size < b) := Lib.hid (fun b hb => by have := (hot.lt b hb).1; have := HS2.out; omega)
          clear hb3 HB2 hot HCL hcf hmeth
          have f0 := HB3.out.frozen 0
          have f1 := HB3.out.frozen 1
          have f2 := HB3.out.frozen 2
          have f3 := HB3.out.frozen 3
          have f4 := HB3.out.frozen 4
          have c0 := HB3.out.cell 0
          have c1 := HB3.out.cell 1
          have c2 := HB3.out.cell 2
          have c3 := HB3.out.cell 3
          have c4 := HB3.out.cell 4
          go_wp2
          refine bodyPost_ret (results_row_tmp (p := 2) (u := 3) rfl _ _ w.heap.size 54 _ (0, 0) _ rfl (blk_set5 HB3.out) Tryz.underlying54 rfl (by kernel_rfl)) rfl ?_
          unfold PaPost
          rw [HPO.out]
          exact ⟨_, _, bs, rfl, (HOT.out.less HZ2.out.size).kept (fun b hb => heap_set5 b (by have := HLT.out b hb; omega)), hnd, below_set5 HZ3.out (Nat.le_refl _)⟩
-- >
end Js
end Go.Proofs.YtjohdaobhonioaaGreatDoor
namespace Go.Proofs.YtjohdaobhonioaaGreatDoor
open Go.RowKit
namespace Js
theorem place_some {l : List (List UInt8)} {s : List UInt8} {j : Nat} (h : l[j]? = some s) (hn : s ∉ l.take j) : placeL l s = some j := by
 have hm : s ∈ l := List.mem_of_getElem? h
 obtain ⟨i, hi, hx⟩ := idxOf_some hm
 unfold placeL
 rw [hi]
 have hlt : ∀ {q : Nat}, l[q]? = some s -> q < l.length := fun {q} hq => by
  rcases Nat.lt_or_ge q l.length with h1 | h1
  . exact h1
  . rw [List.getElem?_eq_none h1] at hq; cases hq
 have hij : ¬ i < j := fun hlt' => hn (List.mem_of_getElem? (i := i) (by rw [List.getElem?_take_of_lt hlt']; exact hx))
 have hji : ¬ j < i := fun hlt' => by
  have h1 := List.idxOf?_eq_some_iff.1 hi
  obtain ⟨_, _, h3⟩ := h1
  have := h3 j hlt'
  rw [List.getElem?_eq_getElem (hlt h)] at h
  injection h with h
  exact this h
 congr 1
 omega
theorem place_none {l : List (List UInt8)} {s : List UInt8} (h : s ∉ l) : placeL l s = none := by
 unfold placeL
 rw [List.idxOf?_eq_none_iff]
 exact h
theorem place_spec {l : List (List UInt8)} {s : List UInt8} {j : Nat} (h : placeL l s = some j) : l[j]? = some s := by
 unfold placeL at h
 by_cases hm : s ∈ l
 . obtain ⟨i, hi, hx⟩ := idxOf_some hm
   rw [hi] at h
   injection h with h
   subst h
   exact hx
 . rw [List.idxOf?_eq_none_iff.2 hm] at h; cases h
def placeI (l : List (List UInt8)) (s : List UInt8) : Int := match placeL l s with
 | some j => (j : Int)
 | none => -1
theorem idx_any (A : Option Addr) (n c B : Nat) (l : List (List UInt8)) (s : List UInt8) (w : World) (hr : Reads w B 1 A n (tx l)) (hn : n ≤ 4398046511104) :
  Calls Tryz.prog 212 #[.slice A n c, .string ⟨s.toArray⟩] w fun x w' => x = .returned (.int .i64 (placeI l s)) /\ w' = w := by
 have hll : l.length = n := by have := hr.1; rw [tx_length] at this; omega
 have HR := Lib.hid hr
 have HLL := Lib.hid hll
 clear hr hll
 go_enter Tryz.func212, Tryz.ntmps212
 go_wp2_with fail
 go_loopw [8] (fun i wr => ∃ j : Nat, j ≤ n /\ i = .int .i64 j /\ Hid (s ∉ l.take j) /\ wr = w) (fun i _ => n - (intOf i).toNat)
 case atStart => exact ⟨0, by omega, rfl, Lib.hid (by simp), rfl⟩
 case round =>
  obtain ⟨j, hj, rfl, HN, rfl⟩ := hrel
  by_cases hlt : j < n
  . obtain ⟨ad, u, rfl, _, hu, hc⟩ := HR.out.at_ hlt
    have hlt2 : j < l.length := by have := HLL.out; omega
    have hxu := tx_get hu hlt2
    subst hxu
    have HX : Hid (l.take (j + 1) = l.take j ++ [l.getD j []] /\ l[j]? = some (l.getD j [])) := Lib.hid (by
      rw [List.take_succ_eq_append_getElem hlt2]
      simp [List.getD, List.getElem?_eq_getElem hlt2])
    generalize l.getD j [] = x at hc hu HX
    clear hu
    by_cases hsx : s = x
    . subst hsx
      have HP : Hid (placeI l s = (j : Int)) := Lib.hid (by unfold placeI; rw [place_some HX.out.2 HN.out])
      go_wp2
      go_ret
      rw [HP.out]
      exact ⟨rfl, rfl⟩
    . have e1 : (s == x) = false := by simpa using hsx
      have HSX := Lib.hid hsx
      clear hsx
      go_wp2_with fail
      refine ⟨⟨j + 1, by omega, by push_cast; rfl, Lib.hid (by
       rw [HX.out.1]
       intro h
       rcases List.mem_append.1 h with h | h
       . exact HN.out h
       . simp at h; exact HSX.out h), trivial⟩, ?_⟩
      show n - ((j : Int) + 1).toNat < n - ((j : Int)).toNat
      omega
  . have hjn : j = n := by omega
    subst hjn
    have HP : Hid (placeI l s = -1) := Lib.hid (by
      have h1 := HN.out
      rw [<- HLL.out, List.take_length] at h1
      unfold placeI
      rw [place_none h1])
    go_wp2
    go_ret
    rw [HP.out]
    exact ⟨rfl, rfl⟩
def getO (h : Hd) (k : F) (key : List UInt8) : Option (Hd × F) := if h.kind = 6 then (placeL h.keys key).bind fun j => (toL k)[j]? else none
def GPost (h : Hd) (k : F) (key : List UInt8) (w : World) (x : Ending) (w' : World) : Prop := match getO h k key with
 | some p => ∃ iv kv bs, x = .returned (.tuple #[.agg #[.int .i64 p.1.kind, .int .i64 p.1.num, .string ⟨p.1.text.toArray⟩, iv, kv], .bool true]) /\ OT encJ w' w.heap.size 54 9 (.cons p.1 p.2 .nil) (jcells p.1 iv kv) bs /\ bs.Nodup /\ Below w.heap.size w w'
 | none => x = .returned (.tuple #[zeroJ, .bool false]) /\ Below w.heap.size w w'
set_option maxHeartbeats 4000000 in
set_option maxRecDepth 100000 in
theorem get_any (h : Hd) (k : F) (iv kv : Value) (key : List UInt8) (S : Nat -> Prop) (w : World) (htv : TV encJ w S h k (jcells h iv kv)) (hS : ∀ b, S b -> b < w.heap.size) (hsz : k.sz ≤ 1099511627776) (hdp : k.deep ≤ 65536) :
   Calls Tryz.prog 142 #[.agg #[.int .i64 h.kind, .int .i64 h.num, .string ⟨h.text.toArray⟩, iv, kv], .string ⟨key.toArray⟩] w (GPost h k key w) := by
 obtain ⟨A1, c1, A2, c2, us, ecs, hlk, ⟨hlq, _⟩, hr1, htr, hr2⟩ := htv
 have eiv : iv = .slice A1 k.len c1 /\ kv = .slice A2 h.keys.length c2 := by
   simp only [encJ, jcells, List.cons.injEq, and_true, true_and] at ecs
   exact ecs
 obtain ⟨rfl, rfl⟩ := eiv
 obtain ⟨b0, hb0⟩ : ∃ b0, b0 = w.heap.size := ⟨_, rfl⟩
 obtain ⟨wz, hwz⟩ : ∃ wz, wz = (w.alloc (.cells #[.int .i64 h.kind, .int .i64 h.num, .string ⟨h.text.toArray⟩, .slice A1 k.len c1, .slice A2 h.keys.length c2] 54)).alloc (.cells #[.int .i64 0, .int .i64 0, .string ⟨#[]⟩, .slice none 0 0, .slice none 0 0] 54) := ⟨_, rfl⟩
 have HB0 : Hid (Blk wz b0 54 #[.int .i64 h.kind, .int .i64 h.num, .string ⟨h.text.toArray⟩, .slice A1 k.len c1, .slice A2 h.keys.length c2]) := Lib.hid (by rw [hwz, hb0]; exact Blk.alloc (Blk.new _ _ _) _)
 have HR0 : Hid (Blk wz (b0 + 1) 54 #[.int .i64 0, .int .i64 0, .string ⟨#[]⟩, .slice none 0 0, .slice none 0 0]) := Lib.hid (by
   have := Blk.new (w.alloc (.cells #[.int .i64 h.kind, .int .i64 h.num, .string ⟨h.text.toArray⟩, .slice A1 k.len c1, .slice A2 h.keys.length c2] 54)) 54 #[.int .i64 0, .int .i64 0, .string ⟨#[]⟩, .slice none 0 0, .slice none 0 0]
   rw [hwz, hb0]; simpa using this)
 have HZ : Hid (Below w.heap.size w wz /\ w.heap.size = b0) := Lib.hid (by rw [hwz, hb0]; exact ⟨((Below.refl _ _).alloc (Nat.le_refl _) _).alloc (by simp) _, rfl⟩)
 have HS := Lib.hid hS
 have HTR := Lib.hid htr
 have HR1 := Lib.hid (hr1.reads hS)
 have HR2 := Lib.hid ((hr2.reads hS).below HZ.out.1)
 have HKS := Lib.hid hsz
 have HKD := Lib.hid hdp
 obtain ⟨L, hL⟩ : ∃ L, L = k.len := ⟨_, rfl⟩
 obtain ⟨nk, hnk⟩ : ∃ nk, nk = h.keys.length := ⟨_, rfl⟩
 have HL := Lib.hid hL
 have HNK := Lib.hid hnk
 rw [<- hL] at HR1 HB0 hwz hlk ⊢
 rw [<- hnk] at HR2 HB0 hwz hlq ⊢
 clear hS htr hr1 hr2 ecs hL hnk hsz hdp
 have f0 := HR0.out.frozen 0
 have f1 := HR0.out.frozen 1
 have f2 := HR0.out.frozen 2
 have f3 := HR0.out.frozen 3
 have f4 := HR0.out.frozen 4
 have c0 := HR0.out.cell 0
 have c1' := HR0.out.cell 1
 have c2' := HR0.out.cell 2
 have c3 := HR0.out.cell 3
 have c4 := HR0.out.cell 4
 have d0 := HB0.out.cell 0
 have d3 := HB0.out.cell 3
 have d4 := HB0.out.cell 4
 have hbb : b0 ≤ b0 + 1 := by omega
 by_cases h6 : h.kind = 6
 . have q6 : (h.kind != 6) = false := by rw [h6]; rfl
   have HG : Hid (getO h k key = (placeL h.keys key).bind fun j => (toL k)[j]?) := Lib.hid (by unfold getO; rw [if_pos h6])
   have HIX := Lib.hid (idx_any A2 nk c2 w.heap.size h.keys key wz HR2.out hlq)
   clear h6
   go_enter Tryz.func142, Tryz.ntmps142
   go_wp2_with fail
   rw [<- hwz]
   rw [<- hb0]
   clear hwz hb0
   refine HIX.out.mono ?_
   rintro x w1 ⟨rfl, rfl⟩
   cases hp : placeL h.keys key with
   | none =>
    have HG1 : Hid (getO h k key = none) := Lib.hid (by rw [HG.out, hp]; rfl)
    have HI1 : placeI h.keys key = -1 := by unfold placeI; rw [hp]
    rw [HI1]
    clear hp HI1 HIX
    go_wp2
    exact bodyPost_ret (results_row_tmp (p := 4) (u := 5) rfl _ _ (b0 + 1) 54 _ (0, 0) _ rfl (blk_set5 HR0.out) Tryz.underlying54 rfl (by kernel_rfl)) rfl (by unfold GPost; rw [HG1.out]; exact ⟨rfl, below_set5 HZ.out.1 (by rw [HZ.out.2]; exact hbb)⟩)
   | some j =>
    have HI1 : placeI h.keys key = (j : Int) := by unfold placeI; rw [hp]
    rw [HI1]
    have HJ : Hid (j < nk) := Lib.hid (by
      have h1 := place_spec hp
      rw [HNK.out]
      rcases Nat.lt_or_ge j h.keys.length with h2 | h2
      . exact h2
      . rw [List.getElem?_eq_none h2] at h1; cases h1)
    by_cases hjl : j < L
    . obtain ⟨ad, rfl, hab, hcs⟩ := HR1.out.2 (by omega)
      obtain ⟨h0, kk, he, hsz, htv⟩ := HTR.out.at_ (i := j) (by have := HL.out; omega)
      obtain ⟨A4, c4'', A5, c5, us2, ecs, htv'⟩ := htv
      have hcs' := fun j u hu => (HZ.out.1.cell (show (ad.add j).block < w.heap.size by rw [block_of_add]; exact hab)).trans (hcs j u hu)
      obtain ⟨cc0, cc1, cc2, cc3, cc4⟩ := cells5 hcs' ecs
      have HTV : Hid (TV encJ w S h0 kk (jcells h0 (.slice A4 kk.len c4'') (.slice A5 h0.keys.length c5))) := Lib.hid ⟨A4, c4'', A5, c5, us2, rfl, htv'⟩
      have HG1 : Hid (getO h k key = some (h0, kk)) := Lib.hid (by rw [HG.out, hp]; exact he)
      have HCL := Lib.hid (clones_any kk.sz (by have := HKS.out; omega) h0 kk _ _ S 65535 w1 (Nat.le_refl _) (by have := deep_at he; have := HKD.out; omega) (by decide) (HTV.out.kept fun p hp => HZ.out.1.cell (HS.out _ hp)) (fun b h => by have := HS.out b h; have := HZ.out.1.size; omega))
      have HCL2 : Hid (Calls Tryz.prog 213 #[.agg #[.int .i64 h0.kind, .int .i64 h0.num, .string ⟨h0.text.toArray⟩, .slice A4 kk.len c4'', .slice A5 h0.keys.length c5], .int .i64 65535] w1 (VPost h0 kk w1)) := HCL
      have hjlt : ((j : Int) < (L : Int)) = True := eq_true (by omega)
      have hjb : j ≤ 4398046511104 := by omega
      clear htv' ecs hcs hcs' he hsz hab hp HI1 HCL HIX
      go_wp2_with fail
      refine HCL2.out.mono ?_
      rintro x w4 ⟨iv, kv, bs, rfl, hot, hnd, hb4⟩
      obtain ⟨⟨A6, c6, rfl⟩, A7, c7, rfl⟩ := ot_form hot
      have HR4 := Lib.hid (HR0.out.below hb4 HR0.out.lt)
      have HZ4 : Hid (Below w.heap.size w w4) := Lib.hid (HZ.out.1.trans (hb4.mono HZ.out.1.size))
      have HOT := Lib.hid hot
      have HLT : Hid (∀ b ∈ bs, b ≠ b0 + 1) := Lib.hid (fun b hb e => by have := (hot.lt b hb).1; have := HR0.out.lt; omega)
      have HLE : Hid (w.heap.size ≤ w1.heap.size) := Lib.hid HZ.out.1.size
      clear hot hb4 f0 f1 f2 f3 f4 c0 c1' c2' c3 c4 d0 d3 d4
      have f0 := HR4.out.frozen 0
      have f1 := HR4.out.frozen 1
      have f2 := HR4.out.frozen 2
      have f3 := HR4.out.frozen 3
      have f4 := HR4.out.frozen 4
      have c0 := HR4.out.cell 0
      have c1' := HR4.out.cell 1
      have c2' := HR4.out.cell 2
      have c3 := HR4.out.cell 3
      have c4 := HR4.out.cell 4
      go_wp2
      refine bodyPost_ret (results_row_tmp (p := 4) (u := 5) rfl _ _ (b0 + 1) 54 _ (0, 0) _ rfl (blk_set5 HR4.out) Tryz.underlying54 rfl (by kernel_rfl)) rfl ?_
      unfold GPost
      rw [HG1.out]
      exact ⟨_, _, bs, rfl, (HOT.out.less HLE.out).kept (fun b hb => heap_set5 b (HLT.out b hb)), hnd, below_set5 HZ4.out (by rw [HZ.out.2]; exact hbb)⟩
    . have HG1 : Hid (getO h k key = none) := Lib.hid (by
        rw [HG.out, hp]
        show (toL k)[j]? = none
        rw [List.getElem?_eq_none]
        rw [toL_len, <- HL.out]; omega)
      have hjlt : ((j : Int) < (L : Int)) = False := eq_false (by omega)
      clear hp HI1 HIX
      go_wp2
      exact bodyPost_ret (results_row_tmp (p := 4) (u := 5) rfl _ _ (b0 + 1) 54 _ (0, 0) _ rfl (blk_set5 HR0.out) Tryz.underlying54 rfl (by kernel_rfl)) rfl (by unfold GPost; rw [HG1.out]; exact ⟨rfl, below_set5 HZ.out.1 (by rw [HZ.out.2]; exact hbb)⟩)
 . have q6 : (h.kind != 6) = true := by simpa using h6
   have HG : Hid (getO h k key = none) := Lib.hid (by unfold getO; rw [if_neg h6])
   clear h6
   go_enter Tryz.func142, Tryz.ntmps142
   go_wp2_with fail
   rw [<- hwz, <- hb0]
   exact bodyPost_ret (results_row_tmp (p := 4) (u := 5) rfl _ _ (b0 + 1) 54 _ (0, 0) _ rfl HR0.out Tryz.underlying54 rfl (by kernel_rfl)) rfl (by unfold GPost; rw [HG.out]; exact ⟨rfl, HZ.out.1⟩)
end Js
end Go.Proofs.YtjohdaobhonioaaGreatDoor
