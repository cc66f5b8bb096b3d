/-
  Parts of the proof: CfGr, CfJ, CfK.
-/
import Derived.Test.YtjohdaobhonioaaGreatDoorPkFo27
import Derived.Test.YtjohdaobhonioaaGreatDoorPkFo23
import Derived.Test.YtjohdaobhonioaaGreatDoorPkFo4
import Derived.Lib.MakeNoZero
import Derived.Laws.IdiomCopy
import Derived.Deep.MidRow
import Derived.RangeFuncNested
import Derived.RangeFuncBound
import Derived.RangeFuncCalls
import Derived.RangeFuncLeaves
import Derived.Test.YtjohdaobhonioaaGreatDoorProg
import Derived.Laws.AppendOwn
import Derived.Deep.Draws
set_option linter.unusedVariables false
namespace Go.Proofs.YtjohdaobhonioaaGreatDoor
open Go.RowKit
namespace Js.Cf
theorem sizeByte : (Tryz.prog.info? 5).map (·.size) = some 1 := by kernel_rfl
set_option maxHeartbeats 2000000 in
set_option maxRecDepth 1000000 in
theorem grow_fresh (b n : Nat) (w : World) (hbk : w.heap[b]? = some (.cells #[.pointer (some ⟨b, 0, none⟩), .slice none 0 0] 196 (0, 0))) (hn : n ≤ 281474976710656) :
  Calls Tryz.prog 266 #[.pointer (some ⟨b, 0, none⟩), .int .i64 n] w fun e w' => e = .returned (.tuple #[]) /\ Lib.BuilderAt 196 5 b b (.pointer (some ⟨b, 0, none⟩)) [] w' /\ Below b w w' := by
 have hlt : b < w.heap.size := by
  rcases Nat.lt_or_ge b w.heap.size with h' | h'
  . exact h'
  . simp [Array.getElem?_eq_none h'] at hbk
 obtain ⟨cs, hrun, hle, hmax⟩ := Lib.run_makeNoZero (P := Tryz.prog) w.drew #[3] 51 5 Tryz.underlying51 n hn
 have hw : IntKind.i64.wrap (IntKind.i64.wrap 0 + (n : Int)) = n := by
  rw [IntKind.wrap_i64, IntKind.wrap_i64]
  omega
 have hcall : (callFunc 280 #[.int .i64 (IntKind.i64.wrap (IntKind.i64.wrap 0 + (n : Int)))]).run Tryz.prog w.drew = .ok (.value (.slice (some ⟨w.drew.heap.size, 0, none⟩) n cs.size)) (w.drew.drew.drew.alloc (.cells cs 5)) := by
  rw [hw, run_callFunc_extern Tryz.func280 (by kernel_rfl) (by kernel_rfl) (by kernel_rfl) (e := Extern.BytealgMakeNoZero.makeNoZero #[3] #[51]) (by kernel_rfl), hrun]
  rfl
 have c1 : w.drew.cell? ⟨b, 1, none⟩ = some (.slice none 0 0) := by
  have : w.drew.heap[b]? = _ := hbk
  rw [Lib.cell_of_heap this]; rfl
 have c2 : (w.alloc (.cells cs 5)).cell? ⟨b, 1, none⟩ = some (.slice none 0 0) := by
  have : (w.alloc (.cells cs 5)).heap[b]? = _ := (Lib.alloc_old w _ b hlt).trans hbk
  rw [Lib.cell_of_heap this]; rfl
 have f2 : (w.alloc (.cells cs 5)).frozen? ⟨b, 1, none⟩ = false := Lib.frozen_of_heap ((Lib.alloc_old w _ b hlt).trans hbk) 1
 have hcopy : ∀ W : World, (Builtin.copy_ #[51, 51] 3 #[.slice (some ⟨w.heap.size, 0, none⟩) 0 cs.size, .slice none 0 0]).run Tryz.prog W = .ok (goInt 0) W :=
  fun W => run_copy_none W 51 51 3 5 _ _ 0 cs.size 0 0 Tryz.underlying51 sizeByte rfl
 have hfin := Lib.grown_fresh (T := 196) (e := 5) (cs := cs) (Nat.le_refl b) hbk (Nat.le_of_lt hlt) (hmax (by unfold maxLen; omega)) Bld.neB
 rw [World.setCell_alloc_past _ b 1 _ hlt] at hfin
 clear hw
 go_enter Tryz.func266, Tryz.ntmps266
 go_wp2
 go_region
 all_goals (go_wp2; go_end0; exact ⟨rfl, hfin⟩)
set_option maxHeartbeats 2000000 in
set_option maxRecDepth 1000000 in
theorem Grow_fresh (b n : Nat) (w : World) (hbk : w.heap[b]? = some (.cells #[.pointer none, .slice none 0 0] 196 (0, 0))) (hn : n ≤ 281474976710656) :
  Calls Tryz.prog 243 #[.pointer (some ⟨b, 0, none⟩), .int .i64 n] w fun e w' => e = .returned (.tuple #[]) /\ Bd b [] w' /\ Below b w w' := by
 have hbk1 : (w.setCell ⟨b, 0, none⟩ (.pointer (some ⟨b, 0, none⟩))).heap[b]? = some (.cells #[.pointer (some ⟨b, 0, none⟩), .slice none 0 0] 196 (0, 0)) := by
  simp [World.setCell, Array.getElem?_modify, hbk]
 have c1 : (w.setCell ⟨b, 0, none⟩ (.pointer (some ⟨b, 0, none⟩))).cell? ⟨b, 1, none⟩ = some (.slice none 0 0) := by rw [Lib.cell_of_heap hbk1]; rfl
 have hb1 : Below b w (w.setCell ⟨b, 0, none⟩ (.pointer (some ⟨b, 0, none⟩))) := (Below.refl b w).setCell (p := ⟨b, 0, none⟩) (Nat.le_refl _) _
 go_enter Tryz.func243, Tryz.ntmps243
 have hU : Lib.BuilderAt 196 5 b b (.pointer (some ⟨b, 0, none⟩)) [] (w.setCell ⟨b, 0, none⟩ (.pointer (some ⟨b, 0, none⟩))) := ⟨Nat.le_refl _, .slice none 0 0, hbk1, World.ownsRow_nil _ _ _ _, by simp [Value.ownBlock]⟩
 have c1' : (w.setCell ⟨b, 0, none⟩ (.pointer (some ⟨b, 0, none⟩))).drew.cell? ⟨b, 1, none⟩ = some (.slice none 0 0) := c1
 go_wp2_with (go_at_call 206; refine (copyCheck_fresh b w (by rw [Lib.cell_of_heap hbk]; rfl) (by simp [World.shape?, hbk]) (Lib.frozen_of_heap hbk 0)).mono ?_; rintro e w' ⟨rfl, rfl⟩)
 go_region
 all_goals go_wp2_with (go_at_call 266; refine (grow_fresh b n (w.setCell ⟨b, 0, none⟩ (.pointer (some ⟨b, 0, none⟩))).drew hbk1 hn).mono ?_; rintro e w' ⟨rfl, h1, h2⟩)
 all_goals first
  | (go_end0; exact ⟨rfl, Lib.IsBuilderF.of (Or.inr h1), hb1.drew.trans h2⟩)
  | (go_end0; exact ⟨rfl, Lib.IsBuilderF.of (Or.inr hU.drew), hb1.drew⟩)
end Js.Cf
end Go.Proofs.YtjohdaobhonioaaGreatDoor
namespace Go.Proofs.YtjohdaobhonioaaGreatDoor
open Go.RowKit
namespace Js.Cf
theorem lens_wt : ∀ xs : List B, Lib.lens xs + xs.length = wt xs
 | [] => rfl
 | y :: r => by
  have ih := lens_wt r
  rw [wt_cons, List.length_cons]; simp only [Lib.lens, List.map_cons, List.sum_cons] at ih ⊢; omega
set_option maxHeartbeats 8000000 in
set_option maxRecDepth 100000 in
theorem join_many (xs : List B) (bk o c : Nat) (w : World) (hcells : ∀ (j : Nat) x, xs[j]? = some x -> w.cell? ⟨bk, o + j, none⟩ = some (.string ⟨x.toArray⟩)) (hbk : bk < w.heap.size) (h2 : 2 ≤ xs.length) (hcap : xs.length ≤ c) (hwt : wt xs ≤ 1099511627776) :
  Calls Tryz.prog 205 #[.slice (some ⟨bk, o, none⟩) xs.length c, .string ⟨#[47]⟩] w fun e w' => e = .returned (.string ⟨(Lib.join xs [47]).toArray⟩) /\ Below w.heap.size w w' := by
 have HC := Lib.hid hcells
 obtain ⟨x0, r, hxs⟩ : ∃ x0 r, xs = x0 :: r := by
  cases xs with
  | nil => simp at h2
  | cons a t => exact ⟨a, t, rfl⟩
 obtain ⟨N, hN⟩ : ∃ N, N = xs.length := ⟨_, rfl⟩
 have HN := Lib.hid hN
 have hlw := lens_wt xs
 have hln : N ≤ 1099511627776 := by omega
 have hsum : N - 1 + Lib.lens xs ≤ 1099511627776 := by omega
 rw [<- hN] at h2 hcap ⊢
 have hdv : (9223372036854775807 / ((N : Int) - 1) ≤ 1) = False := eq_false (by
  have e : ((N : Int) - 1) = ((N - 1 : Nat) : Int) := by omega
  have h1 : 2 ≤ 9223372036854775807 / (N - 1) := by
    rw [Nat.le_div_iff_mul_le (by omega)]; omega
  have h3 : (9223372036854775807 : Int) / ((N - 1 : Nat) : Int) = ((9223372036854775807 / (N - 1) : Nat) : Int) := IntWalk.up_div (x := 9223372036854775807) rfl rfl
  rw [e, h3]
  omega)
 have hne0 : ((N : Int) == 0) = false := beq_eq_false_iff_ne.2 (by omega)
 have hne1 : ((N : Int) == 1) = false := beq_eq_false_iff_ne.2 (by omega)
 have Hxs := Lib.hid hxs
 have Hwt := Lib.hid hwt
 have HS := Lib.hid hsum
 clear hxs hwt hcells hN hlw
 go_enter Tryz.func205, Tryz.ntmps205
 go_wp2_with fail
 go_loop [5, 41] (fun n i => ∃ k : Nat, k ≤ N /\ i = .int .i64 k /\ n = .int .i64 ((N - 1 + Lib.lens (xs.take k) : Nat) : Int)) (fun _ i => N - (intOf i).toNat)
 case atStart => exact ⟨0, Nat.zero_le _, rfl, by simp [Lib.lens]; omega⟩
 case round =>
  obtain ⟨k, hk, rfl, rfl⟩ := hrel
  by_cases hkn : k < N
  . obtain ⟨x, hx⟩ : ∃ x, xs[k]? = some x := ⟨xs[k]'(by have := HN.out; omega), List.getElem?_eq_getElem _⟩
    have hc := HC.out k x hx
    have hstep := Lib.lens_take_succ xs k x hx
    have hbound : Lib.lens (xs.take (k + 1)) ≤ Lib.lens xs := Lib.lens_take_le _ _
    have hsz : (⟨x.toArray⟩ : ByteArray).size = x.length := rfl
    generalize hA1 : Lib.lens (xs.take (k + 1)) = A1 at hstep hbound
    generalize Lib.lens (xs.take k) = A0 at hstep
    have HA1 := Lib.hid hA1
    clear hA1 hx
    go_wp2
    exact ⟨⟨k + 1, by omega, by go_num, by rw [HA1.out]; refine congrArg _ ?_; omega⟩, by simp [intOf]; omega⟩
  . obtain rfl : k = N := by omega
    have hall : xs.take k = xs := by rw [HN.out, List.take_length]
    rw [hall]
    obtain ⟨T, hT⟩ : ∃ T, T = k - 1 + Lib.lens xs := ⟨_, rfl⟩
    have hTl : T ≤ 1099511627776 := by have := HS.out; omega
    rw [<- hT]
    clear hT hall hsum
    go_wp2_with fail
    refine (Grow_fresh w.heap.size T _ (heap_alloc_new w _) (by omega)).mono ?_
    rintro e w1 ⟨rfl, h1, hb1⟩
    have hb1' : Below w.heap.size w w1 := ((Below.refl w.heap.size w).alloc (Nat.le_refl _) _).trans hb1
    have hx0 : xs[0]? = some x0 := by rw [Hxs.out]; rfl
    have hc0 : w1.cell? ⟨bk, o, none⟩ = some (.string ⟨x0.toArray⟩) := by
     rw [hb1'.cell (p := ⟨bk, o, none⟩) hbk]
     exact HC.out 0 x0 hx0
    have H1 := Lib.hid h1
    have Hb1 := Lib.hid hb1'
    have hwhole : Lib.join xs [47] = x0 ++ Lib.joinTail [47] r := by rw [Hxs.out, Lib.join_cons]
    have hCle : ∀ k, (x0 ++ Lib.joinTail [47] (r.take k)).length ≤ 1099511627776 := fun k => by
     have h1 := join_wt xs
     have h3 := Hwt.out
     rw [hwhole, List.length_append] at h1
     have h2 := Lib.joinTail_take_le [47] r k
     rw [List.length_append]
     omega
    have HCle := Lib.hid hCle
    have Hwhole := Lib.hid hwhole
    clear hCle hwhole h1 hb1 hb1' hx0
    go_wp2_with fail
    refine (writeString_b w.heap.size [] ⟨x0.toArray⟩ w1 H1.out (by
     have := HCle.out 0
     rw [List.length_append] at this
     show 0 + x0.length ≤ _
     omega)).mono ?_
    rintro e w2 ⟨rfl, h2', hb2⟩
    have H2 : Hid (Bd w.heap.size (x0 ++ Lib.joinTail [47] (r.take 0)) w2) := Lib.hid (by simpa [Lib.joinTail] using h2')
    have Hb2 := Lib.hid (Hb1.out.trans hb2.below)
    clear h2' hb2 hc0
    have hrl : r.length = k - 1 := by have := HN.out; rw [Hxs.out] at this; simp at this; omega
    go_wp2_with fail
    go_loopw [65] (fun i wr => ∃ j : Nat, j ≤ r.length /\ i = .int .i64 j /\ Hid (Bd w.heap.size (x0 ++ Lib.joinTail [47] (r.take j)) wr) /\ Hid (Below w.heap.size w wr)) (fun i _ => r.length - (intOf i).toNat)
    case atStart => exact ⟨0, Nat.zero_le _, rfl, H2, Hb2⟩
    case round =>
     obtain ⟨j, hj, rfl, HB, HW⟩ := hrel
     by_cases hjr : j < r.length
     . obtain ⟨y, hy⟩ : ∃ y, r[j]? = some y := ⟨r[j], List.getElem?_eq_getElem hjr⟩
       have hcy : wr.cell? ⟨bk, o + 1 + j, none⟩ = some (.string ⟨y.toArray⟩) := by
        rw [HW.out.cell (p := ⟨bk, o + 1 + j, none⟩) hbk, show o + 1 + j = o + (j + 1) by omega]
        exact HC.out (j + 1) y (by rw [Hxs.out]; simpa using hy)
       have hnext := Lib.joinTail_take_succ [47] r j y hy
       have hl1 := HCle.out (j + 1)
       rw [hnext, List.length_append, List.length_append, List.length_append, List.length_singleton] at hl1
       have HNX : Hid (((x0 ++ Lib.joinTail [47] (r.take j)) ++ [47]) ++ y = x0 ++ Lib.joinTail [47] (r.take (j + 1))) := Lib.hid (by rw [hnext]; simp)
       obtain ⟨P0, hP0⟩ : ∃ P0, P0 = x0 ++ Lib.joinTail [47] (r.take j) := ⟨_, rfl⟩
       have hPl : P0.length + 1 + y.length ≤ 1099511627776 := by rw [hP0, List.length_append]; omega
       rw [<- hP0] at HB HNX
       clear hy hnext hl1 hP0
       go_wp2_with fail
       refine (writeString_b w.heap.size _ ⟨#[47]⟩ wr HB.out (by show P0.length + 1 ≤ _; omega)).mono ?_
       rintro e w3 ⟨rfl, h3, hb3⟩
       have H3 : Hid (Bd w.heap.size (P0 ++ [47]) w3) := Lib.hid h3
       have Hb3 := Lib.hid (HW.out.trans hb3.below)
       clear h3 hb3
       go_wp2_with fail
       refine (writeString_b w.heap.size _ ⟨y.toArray⟩ w3 H3.out (by
        rw [List.length_append, List.length_singleton]
        show P0.length + 1 + y.length ≤ _
        omega)).mono ?_
       rintro e w4 ⟨rfl, h4, hb4⟩
       have H4 : Hid (Bd w.heap.size (x0 ++ Lib.joinTail [47] (r.take (j + 1))) w4) := Lib.hid (by rw [<- HNX.out]; exact h4)
       have Hb4 := Lib.hid (Hb3.out.trans hb4.below)
       clear h4 hb4
       go_wp2
       exact ⟨⟨j + 1, by omega, by go_num, H4, Hb4⟩, by simp [intOf]; omega⟩
     . obtain rfl : j = r.length := by omega
       have hB' : Bd w.heap.size (Lib.join xs [47]) wr := by
        have := HB.out
        rw [List.take_length, <- Hwhole.out] at this
        exact this
       have HB2 := Lib.hid hB'
       clear hB'
       go_wp2_with fail
       refine (string_b w.heap.size _ wr HB2.out).mono ?_
       rintro e w5 ⟨rfl, _, hb5⟩
       have Hb5 := Lib.hid (HW.out.trans hb5.below)
       clear hb5
       go_wp2
       go_ret
       exact ⟨rfl, Hb5.out⟩
theorem join_any (xs : List B) (A : Option Addr) (c : Nat) (w : World) (hr : Reads w w.heap.size 1 A xs.length (tx xs)) (hoff : ∀ a, A = some a -> a.off = 0 /\ a.spot = none) (hcap : xs.length ≤ c) (hwt : wt xs ≤ 1099511627776) :
  Calls Tryz.prog 205 #[.slice A xs.length c, .string ⟨#[47]⟩] w fun e w' => e = .returned (.string ⟨(Lib.join xs [47]).toArray⟩) /\ Below w.heap.size w w' := by
 match xs, hr, hcap, hwt with
 | [], hr, _, _ =>
  go_enter Tryz.func205, Tryz.ntmps205
  go_wp2
  go_ret
  exact ⟨rfl, Below.refl _ _⟩
 | [x], hr, _, _ =>
  obtain ⟨ad, rfl, _, hc⟩ := hr.2 (by simp)
  have hc0 := hc 0 _ rfl
  rw [show ad.add 0 = ad by unfold Addr.add; split <;> simp_all] at hc0
  rw [Lib.join_one]
  simp only [List.length_cons, List.length_nil]
  go_enter Tryz.func205, Tryz.ntmps205
  go_wp2
  go_ret
  exact ⟨rfl, Below.refl _ _⟩
 | x :: y :: r, hr, hcap, hwt =>
  obtain ⟨ad, rfl, hb, hc⟩ := hr.2 (by simp)
  obtain ⟨ho, hs⟩ := hoff ad rfl
  obtain ⟨bk, off, sp⟩ := ad
  simp only at ho hs hb
  subst ho; subst hs
  refine join_many (x :: y :: r) bk 0 c w (fun j u hj => ?_) hb (by simp) hcap hwt
  have := hc j (.string ⟨u.toArray⟩) (by unfold tx; rw [List.getElem?_map, hj]; rfl)
  rw [Addr.add_mid] at this
  exact this
end Js.Cf
end Go.Proofs.YtjohdaobhonioaaGreatDoor
namespace Go.Proofs.YtjohdaobhonioaaGreatDoor
open Go.RowKit
namespace Js.Cf
theorem ownFrom_more {β : Type} {B B' : Nat} {I : β -> World -> Prop} (h : OwnFrom B I) (hB : B ≤ B') : OwnFrom B' I := fun s W W' row hs hg hr => h s W W' row hs hg fun r e => ⟨Nat.le_trans hB (hr r e).1, (hr r e).2⟩
structure KeepsS (e : TypeId) (B : Nat) (W W' : World) : Prop where
 size : W.heap.size ≤ W'.heap.size
 same : ∀ (k : Nat) (o : Obj), B ≤ k -> W.heap[k]? = some o -> (∀ cs fz, o ≠ .cells cs e fz) -> W'.heap[k]? = some o
theorem KeepsS.refl (e : TypeId) (B : Nat) (W : World) : KeepsS e B W W := ⟨Nat.le_refl _, fun _ _ _ h _ => h⟩
theorem KeepsS.trans {e : TypeId} {B : Nat} {X Y Z : World} (h : KeepsS e B X Y) (k : KeepsS e B Y Z) : KeepsS e B X Z := ⟨Nat.le_trans h.size k.size, fun i o hB hi ho => k.same i o hB (h.same i o hB hi ho) ho⟩
theorem KeepsS.less {e : TypeId} {B B' : Nat} {X Y : World} (h : KeepsS e B X Y) (hB : B ≤ B') : KeepsS e B' X Y := ⟨h.size, fun i o hb hi ho => h.same i o (Nat.le_trans hB hb) hi ho⟩
theorem KeepsS.alloc (e : TypeId) (B : Nat) (W : World) (o : Obj) : KeepsS e B W (W.alloc o) := ⟨by simp, fun k _ _ hk _ => (Below.heap_alloc W o k (Array.getElem?_eq_some_iff.1 hk).1).trans hk⟩
theorem KeepsS.drewN (e : TypeId) (B : Nat) (W : World) (n : Nat) : KeepsS e B W (W.drewN n) := ⟨Nat.le_refl _, fun _ _ _ h _ => h⟩
theorem KeepsS.setCell {e : TypeId} {B : Nat} (W : World) {p : Addr} (hp : p.block < B) (v : Value) : KeepsS e B W (W.setCell p v) :=
 ⟨by simp, fun k _ hB hk _ => (Below.heap_setCell W p v k (by omega)).trans hk⟩
theorem KeepsS.grown {e : TypeId} {B : Nat} {W W' : World} {row : Option Nat} (hg : W.grownBy W' row) (hr : ∀ j, row = some j -> ∃ cs fz, W.heap[j]? = some (.cells cs e fz)) : KeepsS e B W W' :=
 ⟨hg.size, fun k o _ hk ho => (hg.block k (Array.getElem?_eq_some_iff.1 hk).1 (fun ek => by
  obtain ⟨cs, fz, hj⟩ := hr k ek.symm
  rw [hk] at hj
  injection hj with hj
  exact ho cs fz hj)).trans hk⟩
def SeqW {α : Type} (F : Fence) (n : Nat) (P : Program) (e : TypeId) (g : Nat) (lb : Array Value) (encs : α -> Array Value) (xs : List α) (w : World) : Prop :=
 ∀ (l : Nat) (J : List α -> World -> Prop) (W : World), Below w.heap.size w W -> OwnFrom W.heap.size J ->
  (∀ pre x W1, pre ++ [x] <+: xs -> J pre W1 -> YieldAt F (n - 1) P l (encs x) W1 fun y W' => y = .returned (.bool true) /\ J (pre ++ [x]) W' /\ KeepsS e W.heap.size W1 W') ->
  J [] W -> CallsIn F n P g (#[.func (.yield l) #[] #[]] ++ lb) W fun y W' => (∃ v, y = .returned v) /\ J xs W'
def roundW (e : TypeId) (B : Nat) (I : World -> Prop) (W : World) : Exit -> Act -> World -> Prop
 | .normal, _, W' => KeepsS e B W W' /\ I W'
 | _, _, _ => False
section
variable {F : Fence} {n : Nat} {P : Program}
theorem wpIn_range_w {α : Type} {g : Operand} {ps : Array Tmp} {assign body : Code} {Q : Exit -> Act -> World -> Prop} {a : Act} {w : World} {e : TypeId}
   (hro : F.round = none) (h1 : F.depth.isSome = true -> 1 ≤ n) {gf : Nat} {lb : Array Value} (hg : a.eval g = .func (.func gf) #[] lb) (hFg : F.fn gf) (eg : ∀ args w, (callFunc gf args).run P w = .ok (.enter gf args) w)
   {encs : α -> Array Value} {xs : List α} {w0 : World} (hseq : SeqW F (n - 1) P e gf lb encs xs w0) (hb0 : Below w0.heap.size w0 w) (hps : ∀ x, (encs x).size = ps.size)
   (I : List α -> World -> Prop) (hI : OwnFrom w.heap.size I) (h0 : I [] w) (a₁ : α -> Act)
   (hassign : ∀ (l : Nat) (x : α) (W : World) (K : Act -> World -> Prop), K (a₁ x) W ->
     assign.wpIn (F.inRound l) (n - 1 - 1) P (Exit.then K (fun _ _ _ => False)) { tmps := (ps.zip (encs x)).foldl (fun t (p, v) => t.setIfInBounds p v) a.tmps, defers := [] } W)
   (hbody : ∀ (l : Nat) (pre : List α) (x : α) (W : World), pre ++ [x] <+: xs -> I pre W -> body.wpIn (F.inRound l) (n - 1 - 1) P (roundW e w.heap.size (I (pre ++ [x])) W) (a₁ x) W)
   (hdone : ∀ (D : Nat) (W : World), w.heap.size ≤ D -> I xs W -> W.heap[D]? = some (.deferred (some [])) -> Q .normal { a with defers := { target := .collected D, args := #[] } :: a.defers } W) :
   (Code.rangeFunc g ps assign body).wpIn F n P Q a w := by
 refine wpIn_rangeFunc ?_
 intro fn hfn
 rw [hro]
 obtain ⟨rc, hrc⟩ : ∃ rc : LoopState -> Loop, rc = fun st => { state := st, pending := none, fn, tmps := a.tmps, params := ps, assign, body, defers := w.heap.size } := ⟨_, rfl⟩
 obtain ⟨W1, hW1⟩ : ∃ W1, W1 = (w.alloc (.deferred (some []))).alloc (.loop (rc .ready)) := ⟨_, rfl⟩
 have hs1 : W1.heap.size = w.heap.size + 2 := by rw [hW1]; simp
 have hL1 : W1.heap[w.heap.size + 1]? = some (.loop (rc .ready)) := by
   have := World.alloc_heap_new (w.alloc (.deferred (some []))) (.loop (rc .ready))
   rw [hW1]; rwa [World.size_alloc] at this
 have hK1 : W1.heap[w.heap.size]? = some (.deferred (some [])) := by
   rw [hW1]; exact (Below.heap_alloc _ _ _ (by simp)).trans (World.alloc_heap_new w _)
 have hI1 : I [] W1 := by rw [hW1]; exact hI.alloc _ (hI.alloc _ h0)
 have hb1 : Below w0.heap.size w0 W1 := by
   rw [hW1]; exact hb0.trans ((((Below.refl _ w).alloc (Nat.le_refl _) _).alloc (by simp) _).mono hb0.size)
 refine ⟨w.heap.size + 1, [{ target := .collected w.heap.size, args := #[] }], W1, { target := .fn (.func gf) lb, args := #[.func (.yield (w.heap.size + 1)) #[] #[]] }, W1, gf,
   #[.func (.yield (w.heap.size + 1)) #[] #[]] ++ lb, W1, ?_, ?_, ?_, ?_, h1, ?_⟩
 . rw [hW1, hrc]; exact run_enterLoop_outer _ _ _ _ _
 . simp only [resolve, hg]
   simp [go_sem]
 . intro f' hf'; simp [Target.leads] at hf'; subst hf'; exact hFg
 . simp [invoke, go_sem, eg]
 . refine (hseq (w.heap.size + 1) (fun pre W => I pre W /\ W.heap[w.heap.size + 1]? = some (.loop (rc .ready)) /\ W.heap[w.heap.size]? = some (.deferred (some []))) W1 hb1 ?_ ?_ ⟨hI1, hL1, hK1⟩).mono ?_
   . rintro s A B row ⟨hi, hl, hk⟩ hg' hr
     refine ⟨hI s A B row hi hg' fun r e => ⟨by have := (hr r e).1; omega, (hr r e).2⟩, ?_, ?_⟩
     . exact (hg'.block _ (Array.getElem?_eq_some_iff.1 hl).1 (fun e => by have := (hr _ e.symm).1; omega)).trans hl
     . exact (hg'.block _ (Array.getElem?_eq_some_iff.1 hk).1 (fun e => by have := (hr _ e.symm).1; omega)).trans hk
   . rintro pre x W hpx ⟨hi, hl, hk⟩
     have hlt : w.heap.size + 1 < W.heap.size := (Array.getElem?_eq_some_iff.1 hl).1
     have hy := run_yield (P := P) (args := encs x) hl (by rw [hrc]; exact hps x)
     rw [hrc] at hy
     refine ⟨fn, _, assign, body, hy, roundIn_of_wpIn hfn (hassign _ x W _ ⟨_, run_beginRound hl (by rw [hrc]), ?_⟩)⟩
     have hl2 : (W.putObj (w.heap.size + 1) (.loop { rc .ready with state := .busy })).heap[w.heap.size + 1]? = some (.loop { rc .ready with state := .busy }) := World.putObj_heap_same hlt
     have hk2 : (W.putObj (w.heap.size + 1) (.loop { rc .ready with state := .busy })).heap[w.heap.size]? = some (.deferred (some [])) := (World.putObj_heap_other (by omega)).trans hk
     refine wpIn_mono (hbody _ pre x _ hpx (hI.putObj _ hi (by omega) hl rfl)) ?_
     rintro e a3 W3 hp
     cases e with
     | normal =>
       obtain ⟨hk3, hi3⟩ := hp
       have hl3 := hk3.same _ _ (by omega) hl2 (fun _ _ h => by cases h)
       have hd3 := hk3.same _ _ (Nat.le_refl _) hk2 (fun _ _ h => by cases h)
       have hr := run_endRound (P := P) none hl3
       have erc : ({ rc .ready with state := .busy, pending := none } : Loop) = { rc .ready with state := .busy } := by rw [hrc]
       rw [hrc] at hr
       refine ⟨_, _, hr, rfl, ⟨hI.putObj _ hi3 (by omega) hl3 rfl, ?_, (World.putObj_heap_other (by omega)).trans hd3⟩, ?_⟩
       . have := World.putObj_heap_same (o := .loop (rc .ready)) (Array.getElem?_eq_some_iff.1 hl3).1
         rw [hrc] at this ⊢
         exact this
       . refine ⟨Nat.le_trans (by simp) (Nat.le_trans hk3.size (by simp)), fun k o hB h ho => ?_⟩
         have e1 : k ≠ w.heap.size + 1 := by omega
         exact (World.putObj_heap_other e1).trans (hk3.same k o (by omega) ((World.putObj_heap_other e1).trans h) ho)
     | ret => exact hp.elim
     | exit id => exact hp.elim
     | goto t => exact hp.elim
     | panic ch => exact hp.elim
     | outgrown => exact hp.elim
   . rintro e W2 ⟨⟨v, rfl⟩, hi, hl, hk⟩
     have hr := run_endLoop (P := P) hl (by rw [hrc]; simp)
     rw [hrc] at hr
     exact ⟨none, _, hr, hdone _ _ (Nat.le_refl _) (hI.putObj _ hi (by omega) hl rfl) ((World.putObj_heap_other (by omega)).trans hk)⟩
end
theorem own_less {w : World} {base n n' size cap : Nat} {A : Option Addr} {e : TypeId} {xs : List Value} (h : w.ownsRow base e size (.slice A n cap) n xs) (hn : n' ≤ n) : w.ownsRow base e size (.slice A n' cap) n' (xs.take (n' * size)) := by
 obtain ⟨hl, h⟩ := h
 have hm : n' * size ≤ n * size := Nat.mul_le_mul_right _ hn
 refine ⟨by rw [List.length_take]; omega, ?_⟩
 rcases h with ⟨e1, h0⟩ | ⟨g, cp, cur, e1, hg, hc, h1, h2, h3, h4⟩
 . have e2 : A = none /\ cap = 0 := by injection e1 with a b c; exact ⟨a, c⟩
   obtain ⟨rfl, rfl⟩ := e2
   obtain rfl : n' = 0 := by omega
   exact .inl ⟨rfl, rfl⟩
 . injection e1 with a b c
   subst a; subst c
   refine .inr ⟨g, cap, cur, rfl, hg, hc, by omega, h2, h3, ?_⟩
   rw [<- h4, List.take_take]
   congr 1; omega
end Js.Cf
end Go.Proofs.YtjohdaobhonioaaGreatDoor
