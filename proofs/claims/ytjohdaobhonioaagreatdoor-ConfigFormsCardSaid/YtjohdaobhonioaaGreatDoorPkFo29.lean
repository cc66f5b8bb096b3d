/-
  Parts of the proof: CfU.
-/
import Derived.Test.YtjohdaobhonioaaGreatDoorPkFo28
import Derived.Test.YtjohdaobhonioaaGreatDoorPkFo3
import Derived.Shelf.Strings.Cut
import Derived.Shelf.Abstract
import Derived.WalkKit
import Derived.OwnWalkIn
import Derived.TacticsInMore
import Derived.LoopNIn
import Derived.LoopIn
import Derived.Maps.AppendAt
namespace Go.Proofs.YtjohdaobhonioaaGreatDoor
open Go.RowKit Go.Shelf
namespace Js.Cf
attribute [local go_sem] Oper.semAt_some
set_option maxHeartbeats 2000000 in
set_option maxRecDepth 100000 in
theorem slCut_any (c : UInt8) (s : ByteArray) (w : World) (hs : s.size ≤ 1099511627776) :
   Calls Tryz.prog 143 #[.string s, .string ⟨#[c]⟩] w fun e w' => e = .returned (.tuple #[.string ⟨(Lib.cut s.data.toList [c]).1.toArray⟩, .string ⟨(Lib.cut s.data.toList [c]).2.1.toArray⟩, .bool (Lib.cut s.data.toList [c]).2.2]) /\ ∃ n, w' = w.drewN n := by
 have hone : Lib.indexB s ⟨#[c]⟩ = Lib.indexByte s.data.toList c := Lib.index_one _ _
 rcases Lib.indexB_cases s ⟨#[c]⟩ with hix | ⟨i, hix, hroom⟩
 . obtain ⟨e1, e2, e3⟩ := Lib.cutB_miss s ⟨#[c]⟩ hix
   rw [show ([c] : List UInt8) = (⟨#[c]⟩ : ByteArray).data.toList from rfl, e1, e2, e3]
   have hb : Lib.indexByte s.data.toList c = -1 := hone.symm.trans hix
   go_enter Tryz.func143, Tryz.ntmps143
   go_wp2_with (go_at_call 214; refine (Any.stringslite_Index_one { lays145 with } s c _).mono ?_; rintro e w' ⟨rfl, rfl⟩; rw [hb])
   go_ret3
   exact ⟨rfl, 0, rfl⟩
 . obtain ⟨e1, e2, e3⟩ := Lib.cutB_hit s ⟨#[c]⟩ i hix
   rw [show ([c] : List UInt8) = (⟨#[c]⟩ : ByteArray).data.toList from rfl, e1, e2, e3]
   have hb : Lib.indexByte s.data.toList c = i := hone.symm.trans hix
   have hroom : i + 1 ≤ s.size := hroom
   have c1 : (0 : Int) ≤ ↑i := by omega
   have c2 : (↑i : Int) ≤ ↑s.size := by omega
   have c3 : (0 : Int) ≤ ↑i + 1 := by omega
   have c4 : (↑i + 1 : Int) ≤ ↑s.size := by omega
   go_enter Tryz.func143, Tryz.ntmps143
   go_wp2_with (go_at_call 214; refine (Any.stringslite_Index_one { lays145 with } s c _).mono ?_; rintro e w' ⟨rfl, rfl⟩; rw [hb])
   go_region
   go_wp2
   go_ret3
   exact ⟨rfl, 1, rfl⟩
theorem cut_any (c : UInt8) (s : B) (w : World) (hs : s.length ≤ 1099511627776) :
  Calls Tryz.prog 45 #[.string ⟨s.toArray⟩, .string ⟨#[c]⟩] w fun e w' => e = .returned (.tuple #[.string ⟨(s.takeWhile (· != c)).toArray⟩, .string ⟨((s.dropWhile (· != c)).drop 1).toArray⟩, .bool (decide (c ∈ s))]) /\ ∃ n, w' = w.drewN n := by
 have h := fun w => slCut_any c ⟨s.toArray⟩ w hs
 have e : Lib.cut (⟨s.toArray⟩ : ByteArray).data.toList [c] = (s.takeWhile (· != c), (s.dropWhile (· != c)).drop 1, decide (c ∈ s)) := cut_is c s
 rw [e] at h
 obtain ⟨r2, hr2⟩ : ∃ r2, r2 = (s.dropWhile (· != c)).drop 1 := ⟨_, rfl⟩
 rw [<- hr2] at h ⊢
 clear hr2 e
 go_enter Tryz.func45, Tryz.ntmps45
 go_wp2_with (go_at_call 143; refine (h _).mono ?_; rintro e w' ⟨rfl, n, rfl⟩)
 go_ret3
 exact ⟨rfl, n, rfl⟩
theorem cutL_step (r : B) : cutL r = (r.takeWhile (· != 47)) :: (if decide ((47 : UInt8) ∈ r) = true then cutL ((r.dropWhile (· != 47)).drop 1) else []) := by
 have h := cutL_eq r
 by_cases hm : (47 : UInt8) ∈ r
 . rw [if_pos hm] at h; rw [h]; simp [hm]
 . rw [if_neg hm] at h; rw [h, (tw_none hm).1]; simp [hm]
theorem cut_meas (r : B) : (if decide ((47 : UInt8) ∈ r) = true then 1 else 0) + ((r.dropWhile (· != 47)).drop 1).length < 1 + r.length := by
 by_cases hm : (47 : UInt8) ∈ r
 . have h1 : (r.dropWhile (· != 47)).length ≤ r.length := by
    have := congrArg List.length (List.takeWhile_append_dropWhile (p := (· != 47)) (l := r))
    rw [List.length_append] at this; omega
   have h0 : 0 < r.length := List.length_pos_of_mem hm
   simp [hm]; omega
 . rw [(tw_none hm).2]; simp [hm]; omega
theorem round_wide {P : Program} {n m l l2 : Nat} {f : FuncId} {tmps : Array Value} {assign body : Code} {w : World} {R : Ending -> World -> Prop} (h : RoundIn Fence.wide n P l f tmps assign body w R) : RoundIn (Fence.wide.inRound l2) m P l f tmps assign body w R := ⟨trivial, fun c cs _ => h.2 c cs (room_wide _)⟩
def vlen : Value -> Nat
 | .string s => s.size
 | _ => 0
def vbit : Value -> Nat
 | .bool true => 1
 | _ => 0
theorem ownFrom_drew {β : Type} {B : Nat} {J : β -> World -> Prop} (h : OwnFrom B J) {s : β} {W : World} (hs : J s W) (n : Nat) : J s (W.drewN n) := h s W _ none hs ⟨rfl, rfl, rfl, Nat.le_refl _, fun _ _ _ => rfl⟩ (fun _ e => by cases e)
set_option maxHeartbeats 4000000 in
set_option maxRecDepth 100000 in
theorem all1_seq (n : Nat) (s : B) (Bn : Nat) (w : World) (hBn : Bn < w.heap.size) (hc : w.cell? ⟨Bn, 0, none⟩ = some (.string ⟨s.toArray⟩)) (hs : s.length ≤ 1099511627776) :
  SeqW Fence.wide n Tryz.prog 9 265 #[.pointer (some ⟨Bn, 0, none⟩)] (fun x : B => #[.string ⟨x.toArray⟩]) (cutL s) w := by
 intro l J W hW hJ hY h0
 have hcW : W.cell? ⟨Bn, 0, none⟩ = some (.string ⟨s.toArray⟩) := (hW.cell (p := ⟨Bn, 0, none⟩) hBn).trans hc
 refine callsIn_of_wp Tryz.func265 rfl trivial ?_ rfl
 simp only [Tryz.ntmps265, List.size_toArray, List.length_cons, List.length_nil, Nat.reduceAdd, Nat.reduceSub, Array.replicate_succ, Array.replicate_zero, List.push_toArray, List.append_toArray, List.nil_append, List.cons_append]
 gi_wp2
 gi_loopw [3, 4] (fun r m wr => ∃ (pre : List B) (rest : B) (b : Bool), r = .string ⟨rest.toArray⟩ /\ m = .bool b /\ Hid (cutL s = pre ++ if b = true then cutL rest else []) /\ Hid (J pre wr /\ rest.length ≤ s.length)) (fun r m _ => vbit m + vlen r)
 case atStart => exact ⟨[], s, true, rfl, rfl, Lib.hid (by simp), Lib.hid ⟨h0, Nat.le_refl _⟩⟩
 case round =>
  obtain ⟨pre, rest, b, rfl, rfl, HE, HJ⟩ := hrel
  cases b
  . gi_wp2
    go_end0
    have e := HE.out
    simp only [Bool.false_eq_true, if_false, List.append_nil] at e
    rw [e]
    exact ⟨⟨_, rfl⟩, HJ.out.1⟩
  . obtain ⟨x, hx⟩ : ∃ x, x = rest.takeWhile (· != 47) := ⟨_, rfl⟩
    obtain ⟨r2, hr2⟩ : ∃ r2, r2 = (rest.dropWhile (· != 47)).drop 1 := ⟨_, rfl⟩
    obtain ⟨m2, hm2⟩ : ∃ m2, m2 = decide ((47 : UInt8) ∈ rest) := ⟨_, rfl⟩
    have hcut := cut_any 47 rest wr (Nat.le_trans HJ.out.2 hs)
    have hst := cutL_step rest
    have hme := cut_meas rest
    rw [<- hx, <- hr2, <- hm2] at hcut hst
    rw [<- hr2, <- hm2] at hme
    have HE2 : Hid (cutL s = (pre ++ [x]) ++ if m2 = true then cutL r2 else []) := Lib.hid (by
     have e := HE.out
     rw [if_pos rfl, hst] at e
     rw [e]; simp)
    have HY := Lib.hid hY
    have HME := Lib.hid hme
    clear hst hme hY HE hx hr2 hm2
    gi_wp2_with fail
    refine ⟨trivial, fun h => (by cases h), ?_⟩
    refine (callsIn_wide.2 hcut).mono ?_
    rintro e w' ⟨rfl, k, rfl⟩
    obtain ⟨fn, tmps, assign, body, hy, hR⟩ := HY.out pre x (wr.drewN k) (by rw [HE2.out]; exact List.prefix_append _ _) (ownFrom_drew hJ HJ.out.1 k)
    gi_wp2
    refine ⟨fun h => (by cases h), ?_⟩
    refine hR.mono ?_
    rintro y W3 ⟨rfl, hJ3, _⟩
    gi_wp2
    go_roundw
    case rel => exact ⟨pre ++ [x], r2, m2, rfl, rfl, HE2, Lib.hid ⟨hJ3, by have := HME.out; have := HJ.out.2; cases m2 <;> simp at this <;> omega⟩⟩
    case measure =>
     have h : vbit (.bool m2) + r2.length < 1 + rest.length := by
      have := HME.out
      cases m2 <;> simpa [vbit] using this
     exact h
theorem all_any (s : B) (w : World) : Calls Tryz.prog 242 #[.string ⟨s.toArray⟩] w fun e w' => e = .returned (.func (.func 265) #[] #[.pointer (some ⟨w.heap.size, 0, none⟩)]) /\ w' = w.alloc (.cells #[.string ⟨s.toArray⟩] 9) := by
 go_enter Tryz.func242, Tryz.ntmps242
 go_wp2
 go_ret
 exact ⟨rfl, rfl⟩
theorem pieces_any (s : B) (w : World) : Calls Tryz.prog 204 #[.string ⟨s.toArray⟩] w fun e w' => e = .returned (.func (.func 241) #[] #[.pointer (some ⟨w.heap.size, 0, none⟩)]) /\ w' = w.alloc (.cells #[.string ⟨s.toArray⟩] 9) := by
 go_enter Tryz.func204, Tryz.ntmps204
 go_wp2
 go_ret
 exact ⟨rfl, rfl⟩
theorem yieldTy : 91 ≠ 9 := by decide
set_option maxHeartbeats 4000000 in
set_option maxRecDepth 100000 in
theorem pieces1_seq (n : Nat) (s : B) (Bn : Nat) (w : World) (hBn : Bn < w.heap.size) (hc : w.cell? ⟨Bn, 0, none⟩ = some (.string ⟨s.toArray⟩)) (hs : s.length ≤ 1099511627776) :
  SeqW Fence.wide n Tryz.prog 9 241 #[.pointer (some ⟨Bn, 0, none⟩)] (fun x : B => #[.string ⟨x.toArray⟩]) (pcs s) w := by
 intro l J W hW hJ hY h0
 have hcW : W.cell? ⟨Bn, 0, none⟩ = some (.string ⟨s.toArray⟩) := (hW.cell (p := ⟨Bn, 0, none⟩) hBn).trans hc
 have hBW : Bn < W.heap.size := Nat.lt_of_lt_of_le hBn hW.size
 obtain ⟨yv, hyv⟩ : ∃ yv, yv = Value.func (.yield l) #[] #[] := ⟨_, rfl⟩
 obtain ⟨b0, hb0⟩ : ∃ b0, b0 = W.heap.size := ⟨_, rfl⟩
 obtain ⟨W1, hW1⟩ : ∃ W1, W1 = W.alloc (.cells #[Value.func (.yield l) #[] #[]] 91) := ⟨_, rfl⟩
 have hc1 : W1.cell? ⟨Bn, 0, none⟩ = some (.string ⟨s.toArray⟩) := by rw [hW1, World.cell?_alloc_lt W _ ⟨Bn, 0, none⟩ hBW]; exact hcW
 have HB1 : Hid (Boxed W1 b0 91 (.func (.yield l) #[] #[])) := Lib.hid (by rw [hW1, hb0]; exact Boxed.new _ _ _)
 have HS1 : Hid (W1.heap.size = b0 + 1 /\ b0 = W.heap.size) := Lib.hid (by rw [hW1, hb0]; simp)
 have HJ1 : Hid (J [] W1) := Lib.hid (by rw [hW1]; exact hJ.alloc _ h0)
 refine callsIn_of_wp_marks Tryz.func241 rfl trivial ?_ rfl
 simp only [Tryz.ntmps241, List.size_toArray, List.length_cons, List.length_nil, Nat.reduceAdd, Nat.reduceSub, Array.replicate_succ, Array.replicate_zero, List.push_toArray, List.append_toArray, List.nil_append, List.cons_append]
 gi_wp2_with fail
 refine ⟨trivial, fun h => (by cases h), ?_⟩
 refine (callsIn_wide.2 (all_any s _)).mono ?_
 rintro e w' ⟨rfl, rfl⟩
 gi_wp2_with fail
 obtain ⟨W2, hW2⟩ : ∃ W2, W2 = W1.alloc (.cells #[.string ⟨s.toArray⟩] 9) := ⟨_, rfl⟩
 have hc2 : W2.cell? ⟨b0 + 1, 0, none⟩ = some (.string ⟨s.toArray⟩) := by rw [hW2, <- HS1.out.1]; exact (Blk.new W1 _ _).cell 0
 have HB2 : Hid (Boxed W2 b0 91 (.func (.yield l) #[] #[])) := Lib.hid (by rw [hW2]; exact HB1.out.alloc _)
 have HS2 : Hid (W2.heap.size = b0 + 2) := Lib.hid (by rw [hW2]; simp [HS1.out.1])
 have HJ2 : Hid (J [] W2) := Lib.hid (by rw [hW2]; exact hJ.alloc _ HJ1.out)
 rw [<- hW1, <- hb0, <- hW2]
 clear hW1 hb0 hW2 HB1 HJ1 h0 hc1 hcW hc hBn hBW hyv
 have hJ2 : OwnFrom b0 J := by rw [HS1.out.2]; exact hJ
 refine wpIn_range_w (e := 9) rfl (fun h => (by cases h)) (gf := 265) (lb := #[.pointer (some ⟨b0 + 1, 0, none⟩)]) rfl trivial (enters_of Tryz.func265 (by kernel_rfl) rfl)
  (all1_seq (n - 1) s (b0 + 1) W2 (by rw [HS2.out]; omega) hc2 hs) (Below.refl _ _) (fun _ => rfl)
  (fun pre W' => J (pre.filter (fun p => decide (p ≠ []))) W' /\ Boxed W' b0 91 (.func (.yield l) #[] #[]))
  (OwnFrom.and (fun s W W' row hs hg hr => ownFrom_more hJ2 (by rw [HS2.out]; omega) _ W W' row hs hg hr) (Own.from (boxed_own _ _ (fun _ => .func (.yield l) #[] #[])) _))
  ⟨HJ2.out, HB2.out⟩
  (fun x => { tmps := #[.func (.yield l) #[] #[], .pointer (some ⟨Bn, 0, none⟩), .pointer (some ⟨b0, 0, none⟩), .string ⟨x.toArray⟩, .string ⟨s.toArray⟩, .func (.func 265) #[] #[.pointer (some ⟨b0 + 1, 0, none⟩)], .string ⟨x.toArray⟩, undef, undef, undef, undef, undef, undef, undef, undef], defers := [] }) ?assign ?body ?done
 case assign =>
  intro l x W K hK
  gi_wp2
  exact hK
 case body =>
  rintro l2 pre x W' hpx ⟨hj, hb⟩
  have hcell := hb.cell
  have HB := Lib.hid hb
  have HJ := Lib.hid hj
  clear hj hb
  by_cases hx : x = []
  . subst hx
    gi_wp2
    refine ⟨fun _ h => (by cases h), ?_⟩
    gi_wp2
    exact ⟨KeepsS.refl _ _ _, by rw [List.filter_append]; simpa using HJ.out, HB.out⟩
  . have hfil : (pre ++ [x]).filter (fun p => decide (p ≠ [])) = pre.filter (fun p => decide (p ≠ [])) ++ [x] := by rw [List.filter_append]; simp [hx]
    have hpx2 := pcs_prefix hpx
    rw [hfil] at hpx2
    have he : x.isEmpty = false := by cases x with
      | nil => exact absurd rfl hx
      | cons _ _ => rfl
    have HF := Lib.hid hfil
    obtain ⟨fn, tmps, assign, body, hy, hR⟩ := hY _ x W' hpx2 HJ.out
    clear hfil hpx2 hx
    gi_wp2
    refine ⟨fun h => (by cases h), ?_⟩
    refine (round_wide hR).mono ?_
    rintro y W3 ⟨rfl, hj3, hk3⟩
    have HJ3 := Lib.hid hj3
    have HK3 := Lib.hid hk3
    clear hj3 hk3
    gi_wp2
    refine ⟨HK3.out.less (by have := HS2.out; have := HS1.out.2; omega), ?_, ?_⟩
    . rw [HF.out]; exact HJ3.out
    . exact HK3.out.same _ _ (by have := HS1.out.2; omega) HB.out (fun cs fz h => by injection h with _ h _; exact yieldTy h)
 case done =>
  rintro D W' hD ⟨hj, hb⟩ hK
  gi_wp2
  refine ⟨by simp, .inl ⟨_, _, rfl, run_takeDeferred hK, ?_⟩⟩
  refine ⟨_, results_none rfl _ _ _, ⟨_, rfl⟩, ?_⟩
  exact hJ2.putObj _ hj (by have := HS2.out; omega) hK rfl
end Js.Cf
end Go.Proofs.YtjohdaobhonioaaGreatDoor
