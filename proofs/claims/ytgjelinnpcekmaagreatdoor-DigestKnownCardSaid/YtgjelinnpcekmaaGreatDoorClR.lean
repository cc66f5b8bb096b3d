/-
  The walk of strataref03.Clash at this seat's translation.
-/
import Derived.Test.YtgjelinnpcekmaaGreatDoorClW
import Derived.Test.YtgjelinnpcekmaaGreatDoorShaF
import Derived.BigQuiet
namespace Go.Proofs.YtgjelinnpcekmaaGreatDoor
open Go.RowKit Sha Plain

/-- The digests of the first k, cell by cell. -/
def dgs (D : Nat → List UInt8) (k : Nat) : List Value := (List.range k).flatMap fun i => (D i).map U8
theorem dgs_succ (D : Nat → List UInt8) (k : Nat) : dgs D (k + 1) = dgs D k ++ (D k).map U8 := by unfold dgs; rw [List.range_succ, List.flatMap_append]; simp
theorem dgs_len {D : Nat → List UInt8} (h : ∀ i, (D i).length = 32) (k : Nat) : (dgs D k).length = k * 32 := by
  induction k with
  | zero => rfl
  | succ k ih => rw [dgs_succ, List.length_append, ih, List.length_map, h]; omega
theorem dgs_get {D : Nat → List UInt8} (h : ∀ i, (D i).length = 32) {k i j : Nat} (hi : i < k) (hj : j < 32) : (dgs D k)[i * 32 + j]? = ((D i).map U8)[j]? := by
  induction k with
  | zero => omega
  | succ k ih =>
    rw [dgs_succ]
    by_cases e : i = k
    · subst e
      rw [List.getElem?_append_right (by rw [dgs_len h]; omega), dgs_len h, Nat.add_sub_cancel_left]
    · rw [List.getElem?_append_left (by rw [dgs_len h]; omega)]
      exact ih (by omega)
theorem infoDig : (Tryz.prog.info? 25).map (fun i => (i.zero, i.size, i.bytes)) = some (some (.agg #[Value.int IntKind.u8 0, Value.int IntKind.u8 0, Value.int IntKind.u8 0, Value.int IntKind.u8 0, Value.int IntKind.u8 0, Value.int IntKind.u8 0, Value.int IntKind.u8 0, Value.int IntKind.u8 0, Value.int IntKind.u8 0, Value.int IntKind.u8 0, Value.int IntKind.u8 0, Value.int IntKind.u8 0, Value.int IntKind.u8 0, Value.int IntKind.u8 0, Value.int IntKind.u8 0, Value.int IntKind.u8 0, Value.int IntKind.u8 0, Value.int IntKind.u8 0, Value.int IntKind.u8 0, Value.int IntKind.u8 0, Value.int IntKind.u8 0, Value.int IntKind.u8 0, Value.int IntKind.u8 0, Value.int IntKind.u8 0, Value.int IntKind.u8 0, Value.int IntKind.u8 0, Value.int IntKind.u8 0, Value.int IntKind.u8 0, Value.int IntKind.u8 0, Value.int IntKind.u8 0, Value.int IntKind.u8 0, Value.int IntKind.u8 0]), 32, 32) := by kernel_rfl
theorem fold_zip_at : ∀ (l : List Value) (cs : Array Value) (o : Nat), o + l.length ≤ cs.size →
    (List.foldl (fun (cs : Array Value) (x : Value × Nat) => cs.setIfInBounds x.snd x.fst) cs (l.zipIdx o)).toList = cs.toList.take o ++ l ++ cs.toList.drop (o + l.length)
  | [], cs, o, _ => by simp
  | v :: l, cs, o, h => by
    rw [List.zipIdx_cons, List.foldl_cons]
    simp only [List.length_cons] at h
    rw [fold_zip_at l _ (o + 1) (by simp; omega)]
    simp only [Array.toList_setIfInBounds, List.length_cons]
    rw [List.drop_set_of_lt (by omega), show o + 1 + l.length = o + (l.length + 1) by omega, List.take_succ_eq_append_getElem (by simp; omega), List.take_set_of_le (by omega)]
    simp
theorem fold_zip {l : List Value} {cs : Array Value} (h : l.length = cs.size) : List.foldl (fun (cs : Array Value) (x : Value × Nat) => cs.setIfInBounds x.snd x.fst) cs l.zipIdx = l.toArray := by
  apply Array.toList_inj.1
  have := fold_zip_at l cs 0 (by omega)
  rw [this]
  simp only [List.take_zero, List.nil_append, Nat.zero_add]
  rw [List.drop_of_length_le (by simp; omega), List.append_nil]
/-- A load of an array or struct out of the midst of a row, in a region that only reads. -/
theorem wpQuiet_load_mid {P : Program} {ops : Array Oper} {C : World → Prop} {Q : Act → Prop} {a : Act} {o : Oper} {rest : List Oper} (hw : Region.wanted o (yielded ops a.tmps) = true) (ty : TypeId) (x : Operand) (ho : o.op = .load ty x)
    (b off : Nat) (hx : a.eval x = .pointer (some ⟨b, off, none⟩)) (cs : List Value) (d : TypeDesc) (hC : ∀ w, C w → w.rangeAt b off cs)
    (hu : P.underlying ty = some d) (hd : d.isRow = true) (hi : (P.info? ty).map (·.size) = some cs.length)
    (h : wpQuiet P ops C Q rest (a.put o.dst (.agg cs.toArray))) : wpQuiet P ops C Q (o :: rest) a :=
  BigFrame.wpQuiet_want hw fun K hK => ⟨.agg cs.toArray, fun w hw' => by
    unfold Oper.quietAt
    simp [execOp, ho, hx, run_loadAt_mid w b off ty cs d (hC w hw') hu hd hi, Oper.quietUpon, Result.andThen], hK _ h⟩
theorem eq_digs {i5 : TypeInfo} (hi5 : Tryz.prog.info? 5 = some i5) (a b : List UInt8) (ha : a.length = 32) (hb : b.length = 32) (w : World) : (binOp .eql 25 (dv a) (dv b)).run Tryz.prog w = .ok (.bool (decide (a = b))) w := 
  run_eql_bytes (P := Tryz.prog) Tryz.underlying25 Tryz.underlying5 Bld.cellsByte hi5 a b ha hb w
set_option maxHeartbeats 8000000 in
set_option maxRecDepth 100000 in
theorem refClash_any (z : Int) (A : Option Addr) (n c : Nat) (l : List (List UInt8)) (w : World) (hr : Reads w w.heap.size 1 A n (tx l)) (hn : n ≤ 16777216) (hl : ∀ p ∈ l, p.length ≤ 16777216) (hrt : RTab w) (hbt : BTab w) :
    Calls Tryz.prog 46 #[.int .i64 z, .slice A n c] w (ClashPost z l n w) := by
  have hll : l.length = n := by have := hr.1; rw [tx_length] at this; omega
  obtain ⟨i0, hi0, hz0, hz1, hz2⟩ := info_parts infoDig
  obtain ⟨i5, hi5⟩ := info5
  have HE := Lib.hid (eq_digs hi5)
  clear hi5
  have HLL := Lib.hid hll
  have HR := Lib.hid hr
  have HK := Lib.hid hrt
  have HB := Lib.hid hbt
  have HL := Lib.hid hl
  clear hr hrt hbt hll hl
  go_enter Tryz.func46, Tryz.ntmps46
  go_wp2_with fail
  go_loopw [7, 8] (fun v i wr => ∃ k : Nat, k ≤ n ∧ i = .int .i64 k ∧ Hid (wr.ownsRow w.heap.size 25 32 v k (dgs (fun k => Sha.digest z (l.getD k [])) k)) ∧ Hid (NoCL (fun k => Sha.digest z (l.getD k [])) (fun k => l.getD k []) k) ∧ Hid (Below w.heap.size w wr)) (fun _ i _ => n - (intOf i).toNat)
  case atStart => exact ⟨0, by omega, rfl, Lib.hid (World.ownsRow_nil _ _ _ _), Lib.hid NoCL.zero, Lib.hid (Below.refl _ _)⟩
  case round =>
    obtain ⟨k, hkn, rfl, HO, HN, HW⟩ := hrel
    by_cases hlt : k < n
    · obtain ⟨ad, u, rfl, hab, hu, hc⟩ := (HR.out.below HW.out).at_ hlt
      obtain rfl := tx_get hu (by have := HLL.out; omega)
      have hpl : (l.getD k []).length ≤ 16777216 := HL.out _ (by
        have := HLL.out
        simp [List.getD, List.getElem?_eq_getElem (show k < l.length by omega)])
      have HDV : Hid (∀ wy, RTab wy → BTab wy → Calls Tryz.prog 31 #[.int .i64 z, .string ⟨(l.getD k []).toArray⟩] wy (fun e w' => e = .returned (dv (Sha.digest z (l.getD k []))) ∧ Below wy.heap.size wy w')) := Lib.hid (fun wy hk hb => rsum_any z _ wy hk hb (by omega))
      have hDl : ((Sha.digest z (l.getD k [])).map U8).length = 32 := by simp [Sha.digest_length]
      clear hu
      unfold dv at HDV
      generalize hDL : (Sha.digest z (l.getD k [])).map U8 = DL at hDl HDV
      have HDL := Lib.hid hDL
      clear hDL
      generalize hp : l.getD k [] = p at hc HDV hpl
      have HPP := Lib.hid hp
      clear hp
      go_wp2_with fail
      refine (HDV.out wr (HK.out.below HW.out (block_lt_of_cell (HK.out 0 (by omega)))) (HB.out.below HW.out (block_lt_of_cell (HB.out 0 (by omega))))).mono ?_
      rintro e w1 ⟨rfl, hb1⟩
      have HB1 := Lib.hid (HW.out.trans (hb1.mono HW.out.size))
      have HO1 := Lib.hid (own_kept HO.out hb1)
      clear hb1 HO HW
      have HCS : Hid (∀ j u, DL[j]? = some u → (w1.alloc (Obj.cells (List.foldl (fun cs x => cs.setIfInBounds x.snd x.fst) #[Value.int IntKind.u8 0, Value.int IntKind.u8 0, Value.int IntKind.u8 0, Value.int IntKind.u8 0, Value.int IntKind.u8 0, Value.int IntKind.u8 0, Value.int IntKind.u8 0, Value.int IntKind.u8 0, Value.int IntKind.u8 0, Value.int IntKind.u8 0, Value.int IntKind.u8 0, Value.int IntKind.u8 0, Value.int IntKind.u8 0, Value.int IntKind.u8 0, Value.int IntKind.u8 0, Value.int IntKind.u8 0, Value.int IntKind.u8 0, Value.int IntKind.u8 0, Value.int IntKind.u8 0, Value.int IntKind.u8 0, Value.int IntKind.u8 0, Value.int IntKind.u8 0, Value.int IntKind.u8 0, Value.int IntKind.u8 0, Value.int IntKind.u8 0, Value.int IntKind.u8 0, Value.int IntKind.u8 0, Value.int IntKind.u8 0, Value.int IntKind.u8 0, Value.int IntKind.u8 0, Value.int IntKind.u8 0, Value.int IntKind.u8 0] DL.zipIdx) 25)).cell? ((⟨w1.heap.size, 0, none⟩ : Addr).add j) = some u) := Lib.hid (fun j u hu => by
        have hadd : (⟨w1.heap.size, 0, none⟩ : Addr).add j = ⟨w1.heap.size, j, none⟩ := by unfold Addr.add; split <;> simp_all
        rw [hadd, fold_zip (by rw [hDl]; rfl), Lib.cell_of_heap (heap_alloc_new w1 _)]
        simpa using hu)
      have h1c : ∀ v ∈ DL, v.oneCell' = true := by rw [← HDL.out]; intro v hv; obtain ⟨x, _, rfl⟩ := List.mem_map.1 hv; rfl
      go_upto_region 6 with (at_builtin; refine wpList_append_own _ rfl _ _ 101 rfl w.heap.size 25 i0 _ 32 32 Tryz.underlying101 hi0 hz0 hz1 hz2 rfl (by decide) _ _ _ rfl (HO1.out.alloc _) ⟨w1.heap.size, 0, none⟩ 1 1 DL rfl (by omega) HCS.out h1c (by unfold maxLen; omega) (by omega) (by have := HB1.out.size; simp; omega) ?_; intro v2 w2 hown2 hgrow2 hnil2)
      have HB2 : Hid (Below w.heap.size w w2) := Lib.hid (Below.grown (HB1.out.alloc HB1.out.size _) hgrow2 (by have := HB1.out.size; simp; omega) (fun j hj => (HO1.out.lt j hj).1))
      have HO2 : Hid (w2.ownsRow w.heap.size 25 32 v2 (k + 1) (dgs (fun k => Sha.digest z (l.getD k [])) (k + 1))) := Lib.hid (by rw [dgs_succ]; show w2.ownsRow _ _ _ _ _ (_ ++ (Sha.digest z (l.getD k [])).map U8); rw [HDL.out]; exact hown2)
      clear hown2 hgrow2 hnil2 HB1 HO1 HCS h1c
      obtain ⟨g, cap, hv2, hBg, hglt⟩ := HO2.out.form (by omega)
      subst hv2
      have HGR : Hid (∀ (i : Nat) (w' : World), i < k + 1 → Below w2.heap.size w2 w' → w'.rangeAt g (i * 32) ((Sha.digest z (l.getD i [])).map U8)) := Lib.hid (fun i w' hi hb j v hv => by
        have hj : j < 32 := by have := (List.getElem?_eq_some_iff.1 hv).1; simpa [Sha.digest_length] using this
        have h1 := HO2.out.cells (g := g) rfl (i * 32 + j) v (by rw [dgs_get (fun i => Sha.digest_length _ _) hi hj]; exact hv)
        have hadd : (⟨g, 0, none⟩ : Addr).add (i * 32 + j) = ⟨g, i * 32 + j, none⟩ := by unfold Addr.add; split <;> simp_all
        rw [hadd] at h1
        exact (hb.cell (p := ⟨g, i * 32 + j, none⟩) hglt).trans h1)
      clear hBg
      go_wp2_with fail
      go_loopw [9] (fun s wx => ∃ i : Nat, i ≤ k ∧ s = .int .i64 i ∧ Hid (∀ x, x < i → ¬ CL (fun k => Sha.digest z (l.getD k [])) (fun k => l.getD k []) x k) ∧ Hid (Below w2.heap.size w2 wx)) (fun s _ => k - (intOf s).toNat)
      case atStart => exact ⟨0, by omega, rfl, Lib.hid (fun x hx => by omega), Lib.hid (Below.refl _ _)⟩
      case round =>
        obtain ⟨i, hik, rfl, HC, HX⟩ := hrel
        by_cases hlt2 : i < k
        · have HBX := Lib.hid (HB2.out.trans (HX.out.mono HB2.out.size))
          obtain ⟨ad2, u2, hA2, _, hu2, hc2⟩ := (HR.out.below HBX.out).at_ (show i < n by omega)
          obtain rfl := Option.some.inj hA2
          obtain rfl := tx_get hu2 (by have := HLL.out; omega)
          obtain ⟨ad3, u3, hA3, _, hu3, hc3⟩ := (HR.out.below HBX.out).at_ hlt
          obtain rfl := Option.some.inj hA3
          obtain rfl := tx_get hu3 (by have := HLL.out; omega)
          rw [HPP.out] at hc3
          clear hu2 hA2 hu3 hA3 hc
          generalize hq : l.getD i [] = q at hc2
          have HQ := Lib.hid hq
          clear hq
          have c1 := fun wx => neq_texts q p wx
          by_cases hqp : q = p
          · subst hqp
            rw [decide_eq_false (by simp)] at c1
            have HC2 : Hid (∀ x, x < i + 1 → ¬ CL (fun k => Sha.digest z (l.getD k [])) (fun k => l.getD k []) x k) := Lib.hid (fun x hx hcl => by
              by_cases e : x = i
              · subst e; exact hcl.2.2 (by show l.getD x [] = l.getD k []; rw [HQ.out, HPP.out])
              · exact HC.out x (by omega) hcl)
            go_wp2_with fail
            go_quiet (fail)
            have HX1 := Lib.hid (below_drewN HX.out nq)
            go_wp2
            go_roundw
            case rel => exact ⟨i + 1, by omega, by go_num, HC2, HX1⟩
            case measure => simp [intOf]; omega
          · rw [decide_eq_true (by simpa using hqp)] at c1
            have hqb : (q == p) = false := by simpa using hqp
            have hc4 : ∀ wz, (∃ m, wz = wr.drewN m) → wz.rangeAt g (i * 32) ((Sha.digest z (l.getD i [])).map U8) := by rintro wz ⟨m, rfl⟩; exact HGR.out i _ (by omega) (below_drewN HX.out m)
            have hc5 : ∀ wz, (∃ m, wz = wr.drewN m) → wz.rangeAt g (k * 32) ((Sha.digest z (l.getD k [])).map U8) := by rintro wz ⟨m, rfl⟩; exact HGR.out k _ (by omega) (below_drewN HX.out m)
            have he := HE.out (Sha.digest z (l.getD i [])) (Sha.digest z (l.getD k [])) (Sha.digest_length _ _) (Sha.digest_length _ _)
            unfold dv at he
            have hl4 : ((Sha.digest z (l.getD i [])).map U8).length = 32 := by simp [Sha.digest_length]
            have hl5 : ((Sha.digest z (l.getD k [])).map U8).length = 32 := by simp [Sha.digest_length]
            have hi4 : (Tryz.prog.info? 25).map (·.size) = some ((Sha.digest z (l.getD i [])).map U8).length := by rw [info33, hl4]
            have hi5 : (Tryz.prog.info? 25).map (·.size) = some ((Sha.digest z (l.getD k [])).map U8).length := by rw [info33, hl5]
            by_cases hdd : Sha.digest z (l.getD i []) = Sha.digest z (l.getD k [])
            · have HCL : Hid (CL (fun k => Sha.digest z (l.getD k [])) (fun k => l.getD k []) i k) := Lib.hid ⟨hlt2, hdd, by show l.getD i [] ≠ l.getD k []; rw [HQ.out, HPP.out]; exact hqp⟩
              rw [decide_eq_true hdd] at he
              clear hdd
              generalize (Sha.digest z (l.getD i [])).map U8 = L4 at hc4 he hl4 hi4
              generalize (Sha.digest z (l.getD k [])).map U8 = L5 at hc5 he hl5 hi5
              go_wp2_with fail
              refine wp_region_quiet_lit (by kernel_rfl) (by kernel_rfl) ?_
              repeat (first | (refine wpQuiet_load_mid (by rfl) 25 _ rfl g (i * 32) rfl L4 _ hc4 Tryz.underlying25 rfl hi4 ?_) | (refine wpQuiet_load_mid (by rfl) 25 _ rfl g (k * 32) rfl L5 _ hc5 Tryz.underlying25 rfl hi5 ?_) | go_big_quiet_step (fail) | quiet_step (fail))
              refine wpQuiet_nil ?_
              rintro _ ⟨nq, rfl⟩
              have HX1 := Lib.hid (below_drewN HX.out nq)
              go_wp2
              go_ret3
              exact ⟨i, k, true, rfl, .inl ⟨rfl, hlt, HCL.out, HN.out, HC.out⟩, HB2.out.trans (HX1.out.mono HB2.out.size)⟩
            · have HC2 : Hid (∀ x, x < i + 1 → ¬ CL (fun k => Sha.digest z (l.getD k [])) (fun k => l.getD k []) x k) := Lib.hid (fun x hx hcl => by
                by_cases e : x = i
                · subst e; exact hdd hcl.2.1
                · exact HC.out x (by omega) hcl)
              rw [decide_eq_false hdd] at he
              clear hdd
              generalize (Sha.digest z (l.getD i [])).map U8 = L4 at hc4 he hl4 hi4
              generalize (Sha.digest z (l.getD k [])).map U8 = L5 at hc5 he hl5 hi5
              go_wp2_with fail
              refine wp_region_quiet_lit (by kernel_rfl) (by kernel_rfl) ?_
              repeat (first | (refine wpQuiet_load_mid (by rfl) 25 _ rfl g (i * 32) rfl L4 _ hc4 Tryz.underlying25 rfl hi4 ?_) | (refine wpQuiet_load_mid (by rfl) 25 _ rfl g (k * 32) rfl L5 _ hc5 Tryz.underlying25 rfl hi5 ?_) | go_big_quiet_step (fail) | quiet_step (fail))
              refine wpQuiet_nil ?_
              rintro _ ⟨nq, rfl⟩
              have HX1 := Lib.hid (below_drewN HX.out nq)
              go_wp2
              go_roundw
              case rel => exact ⟨i + 1, by omega, by go_num, HC2, HX1⟩
              case measure => simp [intOf]; omega
        · have hik2 : i = k := by omega
          have HN2 := Lib.hid (HN.out.succ (fun x hx => HC.out x (by omega)))
          have HB3 := Lib.hid (HB2.out.trans (HX.out.mono HB2.out.size))
          have HO3 := Lib.hid (own_kept HO2.out HX.out)
          clear hik2
          go_wp2
          go_roundw
          case rel => exact ⟨k + 1, by omega, by go_num, HO3, HN2, HB3⟩
          case measure => simp [intOf]; omega
    · go_wp2
      go_ret3
      have hkk : k = n := by omega
      subst hkk
      exact ⟨0, 0, false, rfl, .inr ⟨rfl, rfl, rfl, HN.out⟩, HW.out⟩
end Go.Proofs.YtgjelinnpcekmaaGreatDoor
