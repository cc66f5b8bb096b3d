/-
  The walks of slices.Contains at lists of texts, of package expand's names (of a variable) and of Names, at this seat's translation.
-/
import Derived.Test.YtnmnhnhlggbijaaDoorExpS
import Derived.Test.YtnmnhnhlggbijaaDoorExpN
import Derived.Test.YtnmnhnhlggbijaaDoorExpB
import Derived.Test.YtnmnhnhlggbijaaDoorTx
namespace Go.Proofs.YtnmnhnhlggbijaaDoor
open Go.RowKit
namespace Exp
open T

def IdxPost (x : List UInt8) (l : List (List UInt8)) (w : World) (e : Ending) (w' : World) : Prop := ∃ z : Int, e = .returned (.int .i64 z) ∧ (0 ≤ z ↔ x ∈ l) ∧ w = w'
theorem sameStr {p q : List UInt8} (h : p = q) : ((⟨p.toArray⟩ : ByteArray).toList == (⟨q.toArray⟩ : ByteArray).toList) = true := by subst h; exact beq_self_eq_true _
theorem idx_any (x : List UInt8) (l : List (List UInt8)) (A : Option Addr) (n c B : Nat) (w : World) (hr : Reads w B 1 A n (tx l)) (hn : n ≤ 4398046511104) :
    Calls Tryd.prog 115 #[.slice A n c, .string ⟨x.toArray⟩] w (IdxPost x l w) := by
  have HR := Lib.hid hr
  have hl : l.length = n := by have := hr.1; rw [tx_length] at this; omega
  have HL := Lib.hid hl
  clear hr hl
  go_enter Tryd.func115, Tryd.ntmps115
  go_wp2_with fail
  go_loop [8] (fun vi => ∃ i : Nat, i ≤ n ∧ vi = .int .i64 i ∧ Hid (x ∉ l.take i)) (fun vi => n - (intOf vi).toNat)
  case atStart => exact ⟨0, by omega, rfl, Lib.hid (by simp)⟩
  case round =>
    obtain ⟨i, hi, rfl, HX⟩ := hrel
    by_cases hlt : i < n
    · obtain ⟨ad, u, rfl, _, hu, hc⟩ := HR.out.at_ hlt
      obtain rfl := tx_get hu (by have := HL.out; omega)
      have HY : Hid (l.take (i + 1) = l.take i ++ [l.getD i []]) := Lib.hid (by
        have := HL.out
        rw [List.take_succ_eq_append_getElem (by omega)]
        simp [List.getD, List.getElem?_eq_getElem (show i < l.length by omega)])
      have HM : Hid (l.getD i [] ∈ l) := Lib.hid (by
        have := HL.out
        simp [List.getD, List.getElem?_eq_getElem (show i < l.length by omega)])
      clear hu
      generalize l.getD i [] = y at hc HY HM
      by_cases hxy : x = y
      · subst hxy
        go_wp2_with fail
        go_ret
        exact ⟨(i : Int), rfl, ⟨fun _ => HM.out, fun _ => by omega⟩, rfl⟩
      · have hq : (x == y) = false := by rw [beq_eq_false_iff_ne]; exact hxy
        have HZ := Lib.hid hxy
        clear hxy
        go_wp2_with fail
        go_round
        case rel => exact ⟨i + 1, by omega, by go_num, Lib.hid (by rw [HY.out]; simp only [List.mem_append, List.mem_singleton, not_or]; exact ⟨HX.out, HZ.out⟩)⟩
        case measure => simp [intOf]; omega
    · have HE : Hid (x ∉ l) := Lib.hid (by have := HX.out; rwa [List.take_of_length_le (by have := HL.out; omega)] at this)
      go_wp2_with fail
      go_ret
      exact ⟨-1, rfl, ⟨fun h => by omega, fun h => absurd h HE.out⟩, rfl⟩
theorem contains_any (x : List UInt8) (l : List (List UInt8)) (A : Option Addr) (n c B : Nat) (w : World) (hr : Reads w B 1 A n (tx l)) (hn : n ≤ 4398046511104) :
    Calls Tryd.prog 114 #[.slice A n c, .string ⟨x.toArray⟩] w fun e w' => e = .returned (.bool (decide (x ∈ l))) ∧ w = w' := by
  have HI := Lib.hid (idx_any x l A n c B w hr hn)
  clear hr
  go_enter Tryd.func114, Tryd.ntmps114
  go_wp2_with fail
  refine HI.out.mono ?_
  rintro e w' ⟨z, rfl, hz, rfl⟩
  have HZ := Lib.hid hz
  clear hz
  go_wp2_with fail
  go_ret
  refine ⟨?_, rfl⟩
  rw [show decide (x ∈ l) = decide (0 ≤ z) from decide_eq_decide.2 HZ.out.symm]
  rfl
theorem met_len (acc : List (List UInt8)) (n : List UInt8) : (met acc n).length ≤ acc.length + 1 := by unfold met; split <;> simp
theorem mets_len (acc l : List (List UInt8)) : (mets acc l).length ≤ acc.length + l.length := by
  unfold mets
  induction l generalizing acc with
  | nil => simp
  | cons x l ih => have := ih (met acc x); have := met_len acc x; simp; omega
theorem nms_wt (t : T) : t.nms.length ≤ t.wt := by
  induction t with
  | nil => simp [nms, T.wt]
  | lit s r ih => simp [nms, T.wt]; omega
  | var n o i r h1 h2 => simp [nms, T.wt]; omega
theorem mets_append (acc l m : List (List UInt8)) : mets acc (l ++ m) = mets (mets acc l) m := by unfold mets; rw [List.foldl_append]
theorem litMethodNames (v : Value) (w : World) : (Go.method 270 100 v "strata/expand.names").run Tryd.prog w = .ok (95, v) w := by kernel_rfl
theorem varMethodNames (v : Value) (w : World) : (Go.method 270 130 v "strata/expand.names").run Tryd.prog w = .ok (112, v) w := by kernel_rfl
/-- A list of texts of the call's own. -/
def Own9 (w : World) (B : Nat) (v : Value) (l : List (List UInt8)) : Prop := w.ownsRow B 9 1 v l.length (tx l)
theorem Own9.form {w : World} {B : Nat} {v : Value} {l : List (List UInt8)} (h : Own9 w B v l) : ∃ A c, v = .slice A l.length c ∧ Reads w w.heap.size 1 A l.length (tx l) := own_readsN h
theorem Own9.keep {w w' : World} {B : Nat} {v : Value} {l : List (List UInt8)} (h : Own9 w B v l) (hb : Below w.heap.size w w') : Own9 w' B v l := own_kept h hb
def NmsPost (B : Nat) (l : List (List UInt8)) (w : World) (x : Ending) (w' : World) : Prop := ∃ v, x = .returned v ∧ Own9 w' B v l ∧ Below B w w'
def VNmsC (m : Nat) : Prop := ∀ (n : List UInt8) (o : UInt8) (i : T) (k c : Nat) (A : Option Addr) (us : List Value) (S : Nat → Prop) (B : Nat) (v : Value) (acc : List (List UInt8)) (w : World), n.length + 1 + i.wt ≤ m → acc.length + 1 + i.wt ≤ 4398046511104 → Pcs encP w S i us k → Reads w B 1 A k us →
  (∀ x, S x → x < B) → B ≤ w.heap.size → Own9 w B v acc → k ≤ 4398046511104 →
  Calls Tryd.prog 112 #[.agg #[.string ⟨n.toArray⟩, .int .u8 o.toNat, .slice A k c], v] w (NmsPost B (mets acc (n :: i.nms)) w)
theorem litNames_any (u : List UInt8) (v : Value) (w : World) : Calls Tryd.prog 95 #[.string ⟨u.toArray⟩, v] w fun x w' => x = .returned v ∧ w = w' := by
  go_enter Tryd.func95, Tryd.ntmps95
  go_wp2_with fail
  go_ret
  exact ⟨rfl, rfl⟩
/-- Whether the list grows or not: the rest of a variable's names. -/
def NmsRel (k B : Nat) (us : List Value) (S : Nat → Prop) (i0 : T) (full : List (List UInt8)) (w : World) (j : Nat) (v : Value) (wr : World) : Prop :=
  ∃ (t2 : T) (acc : List (List UInt8)), Pcs encP wr S t2 (us.drop j) (k - j) ∧ t2.wt ≤ i0.wt ∧ Own9 wr B v acc ∧ mets acc t2.nms = full ∧ acc.length + t2.wt ≤ 4398046511104 ∧ Below B w wr
theorem NmsRel.lit {k B j : Nat} {us vs3 : List Value} {S : Nat → Prop} {i0 t3 : T} {full acc : List (List UInt8)} {w wr : World} {v : Value} {u : List UInt8} (hvs : us.drop j = litV u :: vs3) (hp : Pcs encP wr S t3 vs3 (k - j - 1)) (ht : (lits u t3).wt ≤ i0.wt) (ho : Own9 wr B v acc) (hm : mets acc (lits u t3).nms = full)
    (hl : acc.length + (lits u t3).wt ≤ 4398046511104) (hb : Below B w wr) : NmsRel k B us S i0 full w (j + 1) v wr := by
  have hd : us.drop (j + 1) = vs3 := by have := congrArg (List.drop 1) hvs; rw [List.drop_drop] at this; exact this
  rw [wt_lits] at ht hl
  rw [nms_lits] at hm
  exact ⟨t3, acc, by rw [hd, show k - (j + 1) = k - j - 1 by omega]; exact hp, by omega, ho, hm, by omega, hb⟩
theorem NmsRel.var {k B j m c : Nat} {A : Option Addr} {us vs3 : List Value} {S : Nat → Prop} {i0 i2 t3 : T} {full acc : List (List UInt8)} {w wr w3 : World} {v : Value} {n : List UInt8} {o : UInt8} (hvs : us.drop j = varV n o A m c :: vs3) (hp : Pcs encP wr S t3 vs3 (k - j - 1)) (hS : ∀ x, S x → x < B)
    (ht : (T.var n o i2 t3).wt ≤ i0.wt) (hm : mets acc (T.var n o i2 t3).nms = full) (hl : acc.length + (T.var n o i2 t3).wt ≤ 4398046511104) (hb : Below B w wr) (h3 : Own9 w3 B v (mets acc (n :: i2.nms))) (hb3 : Below B wr w3) : NmsRel k B us S i0 full w (j + 1) v w3 := by
  have hd : us.drop (j + 1) = vs3 := by have := congrArg (List.drop 1) hvs; rw [List.drop_drop] at this; exact this
  simp only [T.wt] at ht hl
  have h1 := mets_len acc (n :: i2.nms)
  have h2 := nms_wt i2
  simp only [List.length_cons] at h1
  exact ⟨t3, _, by rw [hd, show k - (j + 1) = k - j - 1 by omega]; exact hp.kept (fun p hp => hb3.cell (hS _ hp)), by omega, h3, by rw [← hm, ← mets_append]; rfl, by omega, hb.trans hb3⟩
theorem NmsRel.form {k B j : Nat} {us : List Value} {S : Nat → Prop} {i0 : T} {full : List (List UInt8)} {w wr : World} {v : Value} (h : NmsRel k B us S i0 full w j v wr) : ∃ A n c, v = .slice A n c := by
  obtain ⟨_, _, _, _, h, _⟩ := h
  obtain ⟨A, c, h, _⟩ := h.form
  exact ⟨A, _, c, h⟩
theorem NmsRel.start {k B c c1 : Nat} {us : List Value} {S : Nat → Prop} {i : T} {full acc : List (List UInt8)} {w : World} {A A1 : Option Addr} {n : List UInt8} {o : UInt8} (hp : Pcs encP w S i us k) (hS : ∀ x, S x → x < B) (hB : B ≤ w.heap.size)
    (hlt : ∀ j, (Value.slice A1 acc.length c1).ownBlock = some j → B ≤ j ∧ j < w.heap.size) (hl : acc.length + 1 + i.wt ≤ 4398046511104) (hf : mets (met acc n) i.nms = full) (w1 : World) (v1 : Value) (hmt : met acc n = acc ++ [n])
    (ho : w1.ownsRow B 9 1 v1 (acc.length + 1) (tx acc ++ [.string ⟨n.toArray⟩]))
    (hg : ((w.alloc (.cells #[.string ⟨n.toArray⟩, .int .u8 o.toNat, .slice A k c] 130)).alloc (.cells #[.string ⟨n.toArray⟩] 9)).grownBy w1 (Value.slice A1 acc.length c1).ownBlock) : NmsRel k B us S i full w 0 v1 w1 := by
  have hb : Below B w w1 := Below.grown (((Below.refl B w).alloc hB _).alloc (by simp; omega) _) hg (by simp; omega) (fun j hj => (hlt j hj).1)
  refine ⟨i, acc ++ [n], hp.kept (fun p hp => hb.cell (hS _ hp)), Nat.le_refl _, ?_, by rw [← hmt, hf], by rw [List.length_append, List.length_singleton]; exact hl, hb⟩
  unfold Own9
  rw [List.length_append, List.length_singleton, tx_append]
  exact ho
theorem head_is {us vs3 : List Value} {j : Nat} {x v : Value} (hx : us[j]? = some x) (h : us.drop j = v :: vs3) : x = v := by
  have h1 := congrArg (fun l => l[0]?) h
  simp [List.getElem?_drop] at h1
  rw [hx] at h1
  exact Option.some.inj h1
set_option maxHeartbeats 4000000 in
theorem vnms_step (m : Nat) (hV : ∀ m', m' < m → VNmsC m') : VNmsC m := by
  intro n o i k c A us S B v acc w hm hlen hp hr hS hB ho hk
  obtain ⟨A1, c1, rfl, hrd⟩ := ho.form
  obtain ⟨i0, hi0, hz0, hz1, hz2⟩ := info_parts infoStr
  have HCT := Lib.hid (contains_any n acc A1 acc.length c1 w.heap.size (w.alloc (.cells #[.string ⟨n.toArray⟩, .int .u8 o.toNat, .slice A k c] 130)) (hrd.alloc (Nat.le_refl _) _) (by omega))
  have HO := Lib.hid (World.ownsRow.alloc ho (.cells #[.string ⟨n.toArray⟩, .int .u8 o.toNat, .slice A k c] 130))
  have HB := Lib.hid ((Below.refl B w).alloc hB (.cells #[.string ⟨n.toArray⟩, .int .u8 o.toNat, .slice A k c] 130))
  have HP := Lib.hid hp
  have HRD := Lib.hid hr
  have HS := Lib.hid hS
  have HV := Lib.hid hV
  have HM := Lib.hid hm
  have hal : acc.length ≤ 4398046511103 := by omega
  have HLN := Lib.hid hlen
  have HNE : Hid ((Value.slice A1 acc.length c1).ownBlock ≠ some w.heap.size) := Lib.hid (fun e => by have := (ho.lt _ e).2; omega)
  have HLT := Lib.hid ho.lt
  clear hp hr hS ho hrd hV hm hlen
  obtain ⟨full, hfull⟩ : ∃ full, full = mets acc (n :: i.nms) := ⟨_, rfl⟩
  rw [← hfull]
  have HFU : Hid (mets (met acc n) i.nms = full) := Lib.hid hfull.symm
  clear hfull
  have HBX : Hid (∀ w1, ((w.alloc (.cells #[.string ⟨n.toArray⟩, .int .u8 o.toNat, .slice A k c] 130)).alloc (.cells #[.string ⟨n.toArray⟩] 9)).grownBy w1 (Value.slice A1 acc.length c1).ownBlock → Blk w1 w.heap.size 130 #[.string ⟨n.toArray⟩, .int .u8 o.toNat, .slice A k c]) := Lib.hid (fun w1 hg =>
    ((Blk.new w 130 #[.string ⟨n.toArray⟩, .int .u8 o.toNat, .slice A k c]).alloc _).grown hg (fun e => HNE.out e.symm))
  have start1 := NmsRel.start (full := full) (c := c) (o := o) (c1 := c1) (A := A) HP.out HS.out hB HLT.out HLN.out HFU.out
  by_cases hmem : n ∈ acc
  · rw [decide_eq_true hmem] at HCT
    have HMT : Hid (met acc n = acc) := Lib.hid (if_pos hmem)
    clear hmem
    go_enter Tryd.func112, Tryd.ntmps112
    go_wp2_with fail
    refine HCT.out.mono ?_
    rintro e w1 ⟨rfl, rfl⟩
    have HR0 : Hid (NmsRel k B us S i full w 0 (.slice A1 acc.length c1) (w.alloc (.cells #[.string ⟨n.toArray⟩, .int .u8 o.toNat, .slice A k c] 130))) := Lib.hid
      ⟨i, acc, HP.out.kept (fun p hp => World.cell?_alloc_lt w _ p (by have := HS.out _ hp; omega)), Nat.le_refl _, HO.out, by rw [← HFU.out, HMT.out], by have := HLN.out; omega, HB.out⟩
    go_wp2_with fail
    go_loopw [1, 20] (fun v vi wr => ∃ j : Nat, j ≤ k ∧ vi = .int .i64 j ∧ Hid (NmsRel k B us S i full w j v wr)) (fun _ vi _ => k - (intOf vi).toNat)
    case atStart => exact ⟨0, by omega, rfl, HR0⟩
    case round =>
      clear HR0
      obtain ⟨j, hj, rfl, HR⟩ := hrel
      obtain ⟨t2, acc2, hp2, ht2, ho2, hf2, hl2, hb2⟩ := HR.out
      obtain ⟨A2, c2, rfl, _⟩ := ho2.form
      by_cases hlt : j < k
      · obtain ⟨ad, x, rfl, _, hx, hcell⟩ := (HRD.out.below hb2).at_ hlt
        rcases hp2.next (by omega) with ⟨u, t3, vs3, rfl, hvs, hp3⟩ | ⟨n2, o2, A3, m3, c3, us3, i3, t3, vs3, rfl, hvs, hpi, hm3, hA3, hp3, hn3⟩
        · obtain rfl := head_is hx hvs
          unfold litV at hcell
          have HN := Lib.hid (NmsRel.lit (i0 := i) hvs hp3 ht2 ho2 hf2 hl2 hb2)
          have HC := Lib.hid (litNames_any u (.slice A2 acc2.length c2) wr)
          have hmt := litMethodNames
          clear hx hvs hp2 ht2 hf2 hl2 hb2 hp3 ho2 HR
          go_wp2_with fail
          refine HC.out.mono ?_
          rintro e w3 ⟨rfl, rfl⟩
          go_wp2_with fail
          go_roundw
          case rel => exact ⟨j + 1, by omega, by go_num, HN⟩
          case measure => simp [intOf]; omega
        · obtain rfl := head_is hx hvs
          unfold varV at hcell
          have hwt := ht2
          have hlw := hl2
          simp only [T.wt] at hwt hlw
          have HC := Lib.hid (HV.out (n.length + i.wt) (by have := HM.out; omega) n2 o2 i3 m3 c3 A3 us3 S B _ acc2 wr (by omega) (by omega) hpi ⟨by have := hpi.len; simpa [encP] using this, fun h => by
            obtain ⟨ad2, e2, hS2, hc2⟩ := hA3 h
            exact ⟨ad2, e2, HS.out _ hS2, hc2⟩⟩ HS.out (Nat.le_trans hB hb2.size) ho2 hm3)
          have HN := Lib.hid (fun w3 v3 h3 hb3 => NmsRel.var (w3 := w3) (v := v3) (i0 := i) hvs hp3 HS.out ht2 hf2 hl2 hb2 h3 hb3)
          have hmt := varMethodNames
          clear hx hvs hp2 ht2 hf2 hl2 hb2 hp3 ho2 HR hpi hA3 hn3 hwt hlw
          go_wp2_with fail
          refine HC.out.mono ?_
          rintro e w3 ⟨v3, rfl, h3, hb3⟩
          have HN3 := Lib.hid (HN.out w3 v3 h3 hb3)
          clear h3 hb3
          go_wp2_with fail
          go_roundw
          case rel => exact ⟨j + 1, by omega, by go_num, HN3⟩
          case measure => simp [intOf]; omega
      · have hjk : k - j = 0 := by omega
        rw [hjk] at hp2
        have ht0 := hp2.zero
        subst ht0
        have HF2 : Hid (acc2 = full) := Lib.hid hf2
        have HO2 := Lib.hid ho2
        have HB2 := Lib.hid hb2
        clear hjk hp2 ht2 hf2 hl2 hb2 ho2 HR
        go_wp2_with fail
        go_ret
        exact ⟨_, rfl, by rw [← HF2.out]; exact HO2.out, HB2.out⟩
  · rw [decide_eq_false hmem] at HCT
    have HMT : Hid (met acc n = acc ++ [n]) := Lib.hid (if_neg hmem)
    clear hmem
    go_enter Tryd.func112, Tryd.ntmps112
    go_wp2_with fail
    refine HCT.out.mono ?_
    rintro e w1 ⟨rfl, rfl⟩
    go_wp2_with (at_builtin; refine wpList_append_own _ rfl _ _ 36 rfl B 9 i0 (.string ByteArray.empty) 1 16 Tryd.underlying36 hi0 hz0 hz1 hz2 rfl (by decide) _ _ _ rfl (HO.out.alloc _) ⟨w.heap.size + 1, 0, none⟩ 1 1 [.string ⟨n.toArray⟩] rfl rfl (by simpa using cell_one_new (w.alloc (.cells #[.string ⟨n.toArray⟩, .int .u8 o.toNat, .slice A k c] 130)) (.string ⟨n.toArray⟩) 9) (by intro x hx; simp at hx; subst hx; rfl) (by unfold maxLen; omega) (by omega) (by simp; omega) ?_; intro v1 w1 hown1 hgrow1 _; have HR0 : Hid (NmsRel k B us S i full w 0 v1 w1) := Lib.hid (start1 w1 v1 HMT.out hown1 hgrow1); have hbox : Blk w1 w.heap.size 130 #[.string ⟨n.toArray⟩, .int .u8 o.toNat, .slice A k c] := HBX.out w1 hgrow1; have d2 := hbox.cell 2; simp only [List.getElem?_toArray, List.getElem?_cons_zero, List.getElem?_cons_succ] at d2; clear hbox hown1 hgrow1; obtain ⟨A9, n9, c9, rfl⟩ := HR0.out.form)
    go_wp2_with fail
    go_loopw [1, 20] (fun v vi wr => ∃ j : Nat, j ≤ k ∧ vi = .int .i64 j ∧ Hid (NmsRel k B us S i full w j v wr)) (fun _ vi _ => k - (intOf vi).toNat)
    case atStart => exact ⟨0, by omega, rfl, HR0⟩
    case round =>
      clear HR0
      obtain ⟨j, hj, rfl, HR⟩ := hrel
      obtain ⟨t2, acc2, hp2, ht2, ho2, hf2, hl2, hb2⟩ := HR.out
      obtain ⟨A2, c2, rfl, _⟩ := ho2.form
      by_cases hlt : j < k
      · obtain ⟨ad, x, rfl, _, hx, hcell⟩ := (HRD.out.below hb2).at_ hlt
        rcases hp2.next (by omega) with ⟨u, t3, vs3, rfl, hvs, hp3⟩ | ⟨n2, o2, A3, m3, c3, us3, i3, t3, vs3, rfl, hvs, hpi, hm3, hA3, hp3, hn3⟩
        · obtain rfl := head_is hx hvs
          unfold litV at hcell
          have HN := Lib.hid (NmsRel.lit (i0 := i) hvs hp3 ht2 ho2 hf2 hl2 hb2)
          have HC := Lib.hid (litNames_any u (.slice A2 acc2.length c2) wr)
          have hmt := litMethodNames
          clear hx hvs hp2 ht2 hf2 hl2 hb2 hp3 ho2 HR
          go_wp2_with fail
          refine HC.out.mono ?_
          rintro e w3 ⟨rfl, rfl⟩
          go_wp2_with fail
          go_roundw
          case rel => exact ⟨j + 1, by omega, by go_num, HN⟩
          case measure => simp [intOf]; omega
        · obtain rfl := head_is hx hvs
          unfold varV at hcell
          have hwt := ht2
          have hlw := hl2
          simp only [T.wt] at hwt hlw
          have HC := Lib.hid (HV.out (n.length + i.wt) (by have := HM.out; omega) n2 o2 i3 m3 c3 A3 us3 S B _ acc2 wr (by omega) (by omega) hpi ⟨by have := hpi.len; simpa [encP] using this, fun h => by
            obtain ⟨ad2, e2, hS2, hc2⟩ := hA3 h
            exact ⟨ad2, e2, HS.out _ hS2, hc2⟩⟩ HS.out (Nat.le_trans hB hb2.size) ho2 hm3)
          have HN := Lib.hid (fun w3 v3 h3 hb3 => NmsRel.var (w3 := w3) (v := v3) (i0 := i) hvs hp3 HS.out ht2 hf2 hl2 hb2 h3 hb3)
          have hmt := varMethodNames
          clear hx hvs hp2 ht2 hf2 hl2 hb2 hp3 ho2 HR hpi hA3 hn3 hwt hlw
          go_wp2_with fail
          refine HC.out.mono ?_
          rintro e w3 ⟨v3, rfl, h3, hb3⟩
          have HN3 := Lib.hid (HN.out w3 v3 h3 hb3)
          clear h3 hb3
          go_wp2_with fail
          go_roundw
          case rel => exact ⟨j + 1, by omega, by go_num, HN3⟩
          case measure => simp [intOf]; omega
      · have hjk : k - j = 0 := by omega
        rw [hjk] at hp2
        have ht0 := hp2.zero
        subst ht0
        have HF2 : Hid (acc2 = full) := Lib.hid hf2
        have HO2 := Lib.hid ho2
        have HB2 := Lib.hid hb2
        clear hjk hp2 ht2 hf2 hl2 hb2 ho2 HR
        go_wp2_with fail
        go_ret
        exact ⟨_, rfl, by rw [← HF2.out]; exact HO2.out, HB2.out⟩
theorem own_less {B B' : Nat} {e : TypeId} {size n : Nat} {w : World} {v : Value} {xs : List Value} (hB : B' ≤ B) (h : w.ownsRow B e size v n xs) : w.ownsRow B' e size v n xs := by
  refine ⟨h.1, ?_⟩
  rcases h.2 with hn | ⟨g, cap, cur, rfl, hb, rest⟩
  · exact .inl hn
  · exact .inr ⟨g, cap, cur, rfl, by omega, rest⟩
theorem vnms_all (m : Nat) : VNmsC m := by
  induction m using Nat.strongRecOn with
  | ind m ih => exact vnms_step m ih
set_option maxHeartbeats 4000000 in
theorem names_any (s : List UInt8) (e : UInt8) (O : Out) (w : World) (hs : s.length ≤ 1099511627776) (h : Rd e .plain s O) :
    Calls Tryd.prog 17 #[.string ⟨s.toArray⟩, .int .u8 e.toNat] w (NmsPost w.heap.size (toldNames O) w) := by
  have HC := Lib.hid (read_any .plain s w.heap.size e O (w.alloc (.cells #[.string ⟨s.toArray⟩, .int .i64 0, .int .u8 e.toNat] 57)) (by omega) (Blk.new w _ _) h)
  have HO := Lib.hid h
  clear h
  simp only [K.num] at HC
  go_enter Tryd.func17, Tryd.ntmps17
  go_wp2_with fail
  refine HC.out.mono ?_
  intro x w1 h1
  cases O with
  | err no =>
    obtain ⟨rfl, _, hk⟩ := h1
    have HW : Hid (Below w.heap.size w w1) := Lib.hid ((((Kp.refl w.heap.size (fun _ => False) w).alloc (Nat.le_refl _) _)).trans (hk.mono (by simp) (fun b hb e => by omega))).below
    clear hk HC
    go_wp2_with fail
    go_ret
    exact ⟨_, rfl, World.ownsRow_nil _ _ _ _, HW.out⟩
  | ok t r =>
    obtain ⟨v, n1, q, rfl, hP, hn1, hq, hr, hR, hk⟩ := h1
    obtain ⟨A1, c1, rfl⟩ := hP.form
    obtain ⟨S, vs, ho, hp, hS⟩ := hP
    have HW : Hid (Below w.heap.size w w1) := Lib.hid ((((Kp.refl w.heap.size (fun _ => False) w).alloc (Nat.le_refl _) _)).trans (hk.mono (by simp) (fun b hb e => by omega))).below
    have HR1 := Lib.hid (Reads.of_own ho)
    have HS : Hid (∀ b, S b → b < w1.heap.size) := Lib.hid (fun b hb => (hS b hb).2.1)
    have HT := Lib.hid HO.out.wt
    have hn1l : n1 ≤ 4398046511104 := by omega
    have HR0 : Hid (NmsRel n1 w1.heap.size vs S t (toldNames (.ok t r)) w1 0 (.slice none 0 0) w1) := Lib.hid ⟨t, [], hp, Nat.le_refl _, World.ownsRow_nil _ _ _ _, rfl, by have := HT.out; simp; omega, Below.refl _ _⟩
    clear hr hR hk hp hS ho HC hn1 hq
    obtain ⟨full, hfull⟩ : ∃ full, full = toldNames (.ok t r) := ⟨_, rfl⟩
    rw [← hfull] at HR0
    have HFU := Lib.hid hfull
    clear hfull
    go_wp2_with fail
    go_loopw [8, 24] (fun v vi wr => ∃ j : Nat, j ≤ n1 ∧ vi = .int .i64 j ∧ Hid (NmsRel n1 w1.heap.size vs S t full w1 j v wr)) (fun _ vi _ => n1 - (intOf vi).toNat)
    case atStart => exact ⟨0, by omega, rfl, HR0⟩
    case round =>
      clear HR0
      obtain ⟨j, hj, rfl, HR⟩ := hrel
      obtain ⟨t2, acc2, hp2, ht2, ho2, hf2, hl2, hb2⟩ := HR.out
      obtain ⟨A2, c2, rfl, _⟩ := ho2.form
      by_cases hlt : j < n1
      · obtain ⟨ad, x, rfl, _, hx, hcell⟩ := (HR1.out.below hb2).at_ hlt
        rcases hp2.next (by omega) with ⟨u, t3, vs3, rfl, hvs, hp3⟩ | ⟨n2, o2, A3, m3, c3, us3, i3, t3, vs3, rfl, hvs, hpi, hm3, hA3, hp3, hn3⟩
        · obtain rfl := head_is hx hvs
          unfold litV at hcell
          have HN := Lib.hid (NmsRel.lit (i0 := t) hvs hp3 ht2 ho2 hf2 hl2 hb2)
          have HC := Lib.hid (litNames_any u (.slice A2 acc2.length c2) wr)
          have hmt := litMethodNames
          clear hx hvs hp2 ht2 hf2 hl2 hb2 hp3 ho2 HR
          go_wp2_with fail
          refine HC.out.mono ?_
          rintro e w3 ⟨rfl, rfl⟩
          go_wp2_with fail
          go_roundw
          case rel => exact ⟨j + 1, by omega, by go_num, HN⟩
          case measure => simp [intOf]; omega
        · obtain rfl := head_is hx hvs
          unfold varV at hcell
          have hlw := hl2
          simp only [T.wt] at hlw
          have HC := Lib.hid (vnms_all (n2.length + 1 + i3.wt) n2 o2 i3 m3 c3 A3 us3 S w1.heap.size _ acc2 wr (Nat.le_refl _) (by omega) hpi ⟨by have := hpi.len; simpa [encP] using this, fun h => by
            obtain ⟨ad2, e2, hS2, hc2⟩ := hA3 h
            exact ⟨ad2, e2, HS.out _ hS2, hc2⟩⟩ HS.out hb2.size ho2 hm3)
          have HN := Lib.hid (fun w3 v3 h3 hb3 => NmsRel.var (w3 := w3) (v := v3) (i0 := t) hvs hp3 HS.out ht2 hf2 hl2 hb2 h3 hb3)
          have hmt := varMethodNames
          clear hx hvs hp2 ht2 hf2 hl2 hb2 hp3 ho2 HR hpi hA3 hn3 hlw
          go_wp2_with fail
          refine HC.out.mono ?_
          rintro e w3 ⟨v3, rfl, h3, hb3⟩
          have HN3 := Lib.hid (HN.out w3 v3 h3 hb3)
          clear h3 hb3
          go_wp2_with fail
          go_roundw
          case rel => exact ⟨j + 1, by omega, by go_num, HN3⟩
          case measure => simp [intOf]; omega
      · have hjk : n1 - j = 0 := by omega
        rw [hjk] at hp2
        have ht0 := hp2.zero
        subst ht0
        have HF2 : Hid (acc2 = full) := Lib.hid hf2
        have HO2 : Hid (Own9 wr w.heap.size _ acc2) := Lib.hid (own_less HW.out.size ho2)
        have HB2 := Lib.hid (HW.out.trans (hb2.mono HW.out.size))
        clear hjk hp2 ht2 hf2 hl2 hb2 ho2 HR
        go_wp2_with fail
        go_ret
        exact ⟨_, rfl, by rw [← HFU.out, ← HF2.out]; exact HO2.out, HB2.out⟩
end Exp
end Go.Proofs.YtnmnhnhlggbijaaDoor
