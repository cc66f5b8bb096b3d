/-
  The walk of digest.Clash at this seat's translation.
-/
import Derived.Test.YtgjelinnpcekmaaGreatDoorClM
import Derived.Test.YtgjelinnpcekmaaGreatDoorDigW
namespace Go.Proofs.YtgjelinnpcekmaaGreatDoor
open Go.RowKit Go.Maps Sha Plain

/-- What a search for a clash leaves. -/
def ClashPost (z : Int) (l : List (List UInt8)) (n : Nat) (w : World) (e : Ending) (w' : World) : Prop :=
  ∃ i j b, e = .returned (.tuple #[.int .i64 (i : Nat), .int .i64 (j : Nat), .bool b]) ∧ ClashIs (fun k => Sha.digest z (l.getD k [])) (fun k => l.getD k []) n i j b ∧ Below w.heap.size w w'
theorem zeroInt (w : World) : (zeroValue 3).run Tryz.prog w = .ok (.int .i64 0) w := by kernel_rfl
theorem at_lit {M : DataW Unit} {kl : Lit} {zd : DataW Unit} {a b : Int} (h : M.atKey kl zd = .lit (.int .i64 a)) (h' : M.atKey kl zd = .lit (.int .i64 b)) : b = a := by
  rw [h] at h'
  injection h' with h'
  injection h' with _ h'
  exact h'.symm
set_option maxHeartbeats 8000000 in
set_option maxRecDepth 100000 in
theorem clash_any (z : Int) (A : Option Addr) (n c : Nat) (l : List (List UInt8)) (w : World) (hr : Reads w w.heap.size 1 A n (tx l)) (hn : n ≤ 16777216) (hl : ∀ p ∈ l, p.length ≤ 16777216) (hk : KTab w) :
    Calls Tryz.prog 47 #[.int .i64 z, .slice A n c] w (ClashPost z l n w) := by
  have hll : l.length = n := by have := hr.1; rw [tx_length] at this; omega
  have HLL := Lib.hid hll
  have HR := Lib.hid hr
  have HK := Lib.hid hk
  have HL := Lib.hid hl
  have hmm := @run_makeMap Tryz.prog
  clear hr hk hll hl
  go_enter Tryz.func47, Tryz.ntmps47
  go_wp2_with fail
  go_loopw [16] (fun i wr => ∃ k : Nat, k ≤ n ∧ i = .int .i64 k ∧ Hid (MapOk (fun k => Sha.digest z (l.getD k [])) wr w.heap.size k) ∧ Hid (NoCL (fun k => Sha.digest z (l.getD k [])) (fun k => l.getD k []) k) ∧ Hid (Below w.heap.size w wr)) (fun i _ => n - (intOf i).toNat)
  case atStart => exact ⟨0, by omega, rfl, Lib.hid (MapOk.made _ _), Lib.hid NoCL.zero, Lib.hid ((Below.refl _ _).alloc (Nat.le_refl _) _)⟩
  case round =>
    obtain ⟨k, hkn, rfl, HM, HN, HW⟩ := hrel
    by_cases hlt : k < n
    · obtain ⟨ad, u, rfl, hab, hu, hc⟩ := (HR.out.below HW.out).at_ hlt
      obtain rfl := tx_get hu (by have := HLL.out; omega)
      have hpl : (l.getD k []).length ≤ 16777216 := HL.out _ (by
        have := HLL.out
        simp [List.getD, List.getElem?_eq_getElem (show k < l.length by omega)])
      obtain ⟨kl, hkl⟩ := key_dig (Sha.digest z (l.getD k [])) (Sha.digest_length _ _)
      have HKL := Lib.hid hkl
      have HDV : Hid (∀ wy, KTab wy → Calls Tryz.prog 10 #[.int .i64 z, .string ⟨(l.getD k []).toArray⟩] wy (fun e w' => e = .returned (dv (Sha.digest z (l.getD k []))) ∧ Below wy.heap.size wy w')) := Lib.hid (fun wy hk => dsum_any z _ wy hk hk.lt (by omega))
      have hDl : ((Sha.digest z (l.getD k [])).map U8).length = 32 := by simp [Sha.digest_length]
      have h1a : (((Sha.digest z (l.getD k [])).map U8).toArray).all (·.oneCell') = true := by
        simp only [List.all_toArray, List.all_map]
        exact List.all_eq_true.2 fun _ _ => rfl
      clear hu hkl
      unfold dv at HDV HKL
      generalize hDL : (Sha.digest z (l.getD k [])).map U8 = DL at hDl h1a HDV HKL
      have HDL := Lib.hid hDL
      clear hDL
      have HP : Hid (l.getD k [] = l.getD k []) := Lib.hid rfl
      generalize hp : l.getD k [] = p at hc HDV hpl
      have HPP := Lib.hid hp
      clear HP hp
      have hsz : DL.toArray.size = 32 := by simpa using hDl
      have hi3 : (Tryz.prog.info? 25).map (·.size) = some DL.toArray.size := by rw [info33, hsz]
      go_wp2_with fail
      refine (HDV.out wr (HK.out.below HW.out)).mono ?_
      rintro e w1 ⟨rfl, hb1⟩
      have HB1 := Lib.hid (HW.out.trans (hb1.mono HW.out.size))
      have HM1 := Lib.hid (HM.out.below hb1)
      clear hb1 HM HW
      go_upto_region 6 with (refine wpList_store_row rfl 25 _ _ rfl _ _ rfl rfl 25 _ (heap_alloc_new _ _) hi3 (by rw [hsz]; rfl) h1a ?_)
      have hf1 := fresh_row w1 #[Value.int IntKind.u8 0, Value.int IntKind.u8 0, Value.int IntKind.u8 0, Value.int IntKind.u8 0, Value.int IntKind.u8 0, Value.int IntKind.u8 0, Value.int IntKind.u8 0, Value.int IntKind.u8 0, Value.int IntKind.u8 0, Value.int IntKind.u8 0, Value.int IntKind.u8 0, Value.int IntKind.u8 0, Value.int IntKind.u8 0, Value.int IntKind.u8 0, Value.int IntKind.u8 0, Value.int IntKind.u8 0, Value.int IntKind.u8 0, Value.int IntKind.u8 0, Value.int IntKind.u8 0, Value.int IntKind.u8 0, Value.int IntKind.u8 0, Value.int IntKind.u8 0, Value.int IntKind.u8 0, Value.int IntKind.u8 0, Value.int IntKind.u8 0, Value.int IntKind.u8 0, Value.int IntKind.u8 0, Value.int IntKind.u8 0, Value.int IntKind.u8 0, Value.int IntKind.u8 0, Value.int IntKind.u8 0, Value.int IntKind.u8 0] DL.toArray 25
      generalize ((w1.alloc (.cells #[Value.int IntKind.u8 0, Value.int IntKind.u8 0, Value.int IntKind.u8 0, Value.int IntKind.u8 0, Value.int IntKind.u8 0, Value.int IntKind.u8 0, Value.int IntKind.u8 0, Value.int IntKind.u8 0, Value.int IntKind.u8 0, Value.int IntKind.u8 0, Value.int IntKind.u8 0, Value.int IntKind.u8 0, Value.int IntKind.u8 0, Value.int IntKind.u8 0, Value.int IntKind.u8 0, Value.int IntKind.u8 0, Value.int IntKind.u8 0, Value.int IntKind.u8 0, Value.int IntKind.u8 0, Value.int IntKind.u8 0, Value.int IntKind.u8 0, Value.int IntKind.u8 0, Value.int IntKind.u8 0, Value.int IntKind.u8 0, Value.int IntKind.u8 0, Value.int IntKind.u8 0, Value.int IntKind.u8 0, Value.int IntKind.u8 0, Value.int IntKind.u8 0, Value.int IntKind.u8 0, Value.int IntKind.u8 0, Value.int IntKind.u8 0] 25)).setRow w1.heap.size DL.toArray) = w2 at hf1
      have HB2 := Lib.hid (HB1.out.trans (hf1.2.1.mono HB1.out.size))
      have HG : Hid (w.heap.size ≤ w1.heap.size) := Lib.hid HB1.out.size
      have HY2 : Hid (w2.heap[w1.heap.size]? = some (.cells DL.toArray 25 (0, 0))) := Lib.hid hf1.1
      have HM2 := Lib.hid (HM1.out.below hf1.2.1)
      clear hf1 HB1 HM1 h1a
      generalize w1.heap.size = g1 at HG HY2
      obtain ⟨M, hm1, hm2, hm3⟩ := HM2.out
      obtain ⟨hhas, hat⟩ := hm3 (Sha.digest z (l.getD k [])) kl (Sha.digest_length _ _) (by unfold dv; rw [HDL.out]; exact HKL.out)
      have HAT := Lib.hid hat
      have HHAS := Lib.hid hhas
      have HM3 := Lib.hid hm3
      have HM0 := Lib.hid hm2
      clear hhas hat hm3 hm2
      by_cases hin : Maps.has M kl = true
      · obtain ⟨i0, hi0, hi1⟩ := HHAS.out.1 hin
        obtain ⟨i, hf⟩ := first_ex (D := fun k => Sha.digest z (l.getD k [])) k i0 hi0 hi1
        have HF := Lib.hid hf
        have HFA := Lib.hid (HAT.out i hf)
        clear hf hi0 hi1
        have hik : i < k := HF.out.1
        obtain ⟨ad2, u2, hA2, _, hu2, hc2⟩ := (HR.out.below HB2.out).at_ (show i < n by omega)
        obtain rfl := Option.some.inj hA2
        obtain rfl := tx_get hu2 (by have := HLL.out; omega)
        clear hu2 hA2
        generalize hq : l.getD i [] = q at hc2
        have HQ := Lib.hid hq
        clear hq
        have c1 := fun wx => neq_texts q p wx
        by_cases hqp : q = p
        · have HM4 := Lib.hid (HM2.out.old (D := fun k => Sha.digest z (l.getD k [])) HF.out)
          have HN4 := Lib.hid (HN.out.succ (first_same HF.out (by show l.getD i [] = l.getD k []; rw [HQ.out, HPP.out, hqp]) HN.out))
          rw [decide_eq_false (by simp [hqp])] at c1
          go_wp2_with (first | (refine wpList_load_row rfl 25 _ rfl g1 rfl 25 _ _ _ HY2.out Tryz.underlying25 rfl hi3 ?_) | (at_lookup; refine wpList_lookup_own_ok_int _ rfl _ _ 102 rfl 25 3 .i64 law_dig Tryz.underlying102 Tryz.underlying3 (zeroInt _) w.heap.size k M rfl hm1 _ kl rfl HKL.out ?_; intro c1 hat1 hwc1; obtain rfl := at_lit HFA.out hat1))
          go_roundw
          case rel => exact ⟨k + 1, by omega, by go_num, HM4, HN4, HB2⟩
          case measure => simp [intOf]; omega
        · have HO4 := Lib.hid (first_other (T := fun k => l.getD k []) HF.out (show l.getD i [] ≠ l.getD k [] by rw [HQ.out, HPP.out]; exact hqp))
          rw [decide_eq_true (by simpa using hqp)] at c1
          have hqb : (q == p) = false := by simpa using hqp
          go_wp2_with (first | (refine wpList_load_row rfl 25 _ rfl g1 rfl 25 _ _ _ HY2.out Tryz.underlying25 rfl hi3 ?_) | (at_lookup; refine wpList_lookup_own_ok_int _ rfl _ _ 102 rfl 25 3 .i64 law_dig Tryz.underlying102 Tryz.underlying3 (zeroInt _) w.heap.size k M rfl hm1 _ kl rfl HKL.out ?_; intro c1 hat1 hwc1; obtain rfl := at_lit HFA.out hat1))
          go_ret3
          exact ⟨i, k, true, rfl, .inl ⟨rfl, hlt, HO4.out.1, HN.out, HO4.out.2⟩, HB2.out⟩
      · have hno : ¬ ∃ i, i < k ∧ Sha.digest z (l.getD i []) = Sha.digest z (l.getD k []) := fun h => hin (HHAS.out.2 h)
        have HNO := Lib.hid hno
        have HN4 := Lib.hid (HN.out.succ (fun x hx hc => hno ⟨x, hx, hc.2.1⟩))
        have hinf : Maps.has M kl = false := by simpa using hin
        clear hno
        go_wp2_with (first | (refine wpList_load_row rfl 25 _ rfl g1 rfl 25 _ _ _ HY2.out Tryz.underlying25 rfl hi3 ?_) | (at_lookup; refine wpList_lookup_own_ok_int _ rfl _ _ 102 rfl 25 3 .i64 law_dig Tryz.underlying102 Tryz.underlying3 (zeroInt _) w.heap.size k M rfl hm1 _ kl rfl HKL.out ?_; intro c1 hat1 hwc1) | (at_mapUpdate; refine wpList_mapUpdate_own _ rfl _ _ _ 102 rfl 25 3 law_dig Tryz.underlying102 (plainElem Tryz.prog 3) w.heap.size k M rfl hm1 (by unfold maxLen; omega) _ _ kl rfl rfl HKL.out (.lit (.int .i64 k)) [] (plainElem_int Tryz.underlying3 (WalkArith.wf_i64 (by omega))) ?_; intro w3 hown3 hgrow3))
        have HB3 : Hid (Below w.heap.size w w3) := Lib.hid (HB2.out.grown hgrow3 HB2.out.size (fun j hj => by injection hj with hj; omega))
        have HM4 := Lib.hid (MapOk.new (D := fun k => Sha.digest z (l.getD k [])) (Sha.digest_length _ _) (by unfold dv; show keyOf Tryz.prog 25 (.agg ((Sha.digest z (l.getD k [])).map U8).toArray) = some kl; rw [HDL.out]; exact HKL.out) HM0.out HM3.out HNO.out hown3)
        clear hown3 hgrow3
        go_roundw
        case rel => exact ⟨k + 1, by omega, by go_num, HM4, HN4, HB3⟩
        case measure => simp [intOf]; omega
    · go_wp2
      go_ret3
      have hkk : k = n := by omega
      subst hkk
      exact ⟨0, 0, false, rfl, .inr ⟨rfl, rfl, rfl, HN.out⟩, HW.out⟩
end Go.Proofs.YtgjelinnpcekmaaGreatDoor
