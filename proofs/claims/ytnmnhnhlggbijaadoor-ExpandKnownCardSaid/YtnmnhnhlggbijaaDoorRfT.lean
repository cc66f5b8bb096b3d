/-
  The walk of the reference's put at this seat's translation: what pieces come to, behind some bytes, as far as that is no more than 65536 bytes.
-/
import Derived.Test.YtnmnhnhlggbijaaDoorRfX
import Derived.Test.YtnmnhnhlggbijaaDoorByt
import Derived.Test.YtnmnhnhlggbijaaDoorExpA
import Derived.Lib.AppendStr
namespace Go.Proofs.YtnmnhnhlggbijaaDoor
open Go.RowKit
namespace Exp
open T

/-- The signs in a variable's braces: none, - or +. -/
def T.Ops : T → Prop
  | .nil => True
  | .lit _ r => r.Ops
  | .var _ o i r => (o = 0 ∨ o = 45 ∨ o = 43) ∧ i.Ops ∧ r.Ops
theorem ops_lits (s : List UInt8) (t : T) : (lits s t).Ops ↔ t.Ops := by
  induction s with
  | nil => rfl
  | cons c s ih => exact ih
theorem ops_app {a b : T} (ha : a.Ops) (hb : b.Ops) : (a.app b).Ops := by
  induction a with
  | nil => exact hb
  | lit s r ih => exact ih ha
  | var n o i r _ ih => exact ⟨ha.1, ha.2.1, ih ha.2.2⟩
def OutOps : Out → Prop
  | .ok t _ => t.Ops
  | .err _ => True
def ClsOps : Cls → Prop
  | .fin o => OutOps o
  | .lit p _ => p.Ops
  | .quo _ => True
  | .var _ o _ => o = 45 ∨ o = 43
theorem clsEnd_ops (n s : List UInt8) : ClsOps (clsEnd n s) := by
  cases s with
  | nil => trivial
  | cons c r =>
    simp only [clsEnd]
    split
    · exact ⟨.inl rfl, trivial, trivial⟩
    · split
      · cases r with
        | nil => trivial
        | cons o r' => simp only; split; assumption; trivial
      · trivial
theorem clsVar_ops (s : List UInt8) : ClsOps (clsVar s) := by
  unfold clsVar
  split
  · exact ⟨.inl rfl, trivial, trivial⟩
  · cases s with
    | nil => trivial
    | cons c q =>
      simp only
      split
      · unfold clsBr
        split
        · trivial
        · exact clsEnd_ops _ _
      · trivial
theorem cls_ops (e : UInt8) (k : K) (s : List UInt8) : ClsOps (cls e k s) := by
  cases s with
  | nil => cases k <;> trivial
  | cons c r =>
    show ClsOps (clsC e k c r)
    unfold clsC
    split
    · cases r with
      | nil => trivial
      | cons d r' => simp only; split <;> trivial
    · split
      · exact clsVar_ops r
      · split
        · trivial
        · split
          · trivial
          · split
            · trivial
            · unfold clsQ
              split
              · trivial
              · exact (ops_lits _ _).2 trivial
theorem OutOps.pre {p : T} {o : Out} (hp : p.Ops) (h : OutOps o) : OutOps (o.pre p) := by cases o with | ok t r => exact ops_app hp h | err _ => trivial
theorem Rd.outOps {e : UInt8} {k : K} {s : List UInt8} {o : Out} (h : Rd e k s o) : OutOps o := by
  induction h with
  | fin hc => rename_i k s o; have := cls_ops e k s; rw [hc] at this; exact this
  | lit hc _ ih => rename_i k s p r o _; have := cls_ops e k s; rw [hc] at this; exact ih.pre this
  | quo _ _ _ ih1 ih => exact ih.pre ih1
  | quoE => trivial
  | var hc _ _ ih1 ih => rename_i k s n q r t r' o _ _; have := cls_ops e k s; rw [hc] at this; exact ih.pre ⟨this.elim (fun h => .inr (.inl h)) (fun h => .inr (.inr h)), ih1, trivial⟩
  | varE => trivial
theorem Rd.ops {e : UInt8} {k : K} {s r : List UInt8} {t : T} (h : Rd e k s (.ok t r)) : t.Ops := h.outOps

theorem at_four {w : World} {B n : Nat} {A : Option Addr} {xs r : List Value} {a0 a1 a2 a3 : Value} (h : Reads w B 4 A n xs) {k : Nat} (hk : k < n) (hd : xs.drop (k * 4) = a0 :: a1 :: a2 :: a3 :: r) :
    ∃ ad, A = some ad ∧ ad.block < B ∧ w.cell? (ad.add (k * 4)) = some a0 ∧ w.cell? ⟨(ad.add (k * 4)).block, (ad.add (k * 4)).off + 1, none⟩ = some a1 ∧ w.cell? ⟨(ad.add (k * 4)).block, (ad.add (k * 4)).off + 2, none⟩ = some a2 ∧ w.cell? ⟨(ad.add (k * 4)).block, (ad.add (k * 4)).off + 3, none⟩ = some a3 := by
  obtain ⟨ad, hA, hb, hc⟩ := h.2 (by omega)
  have g : ∀ i u, (a0 :: a1 :: a2 :: a3 :: r)[i]? = some u → w.cell? ((ad.add (k * 4)).add i) = some u := fun i u hu => by
    rw [add_of_add]; exact hc _ _ (by rw [← hd] at hu; simpa [List.getElem?_drop] using hu)
  have e1 := g 1 a1 rfl
  have e2 := g 2 a2 rfl
  have e3 := g 3 a3 rfl
  have e0 := g 0 a0 rfl
  refine ⟨ad, hA, hb, ?_, ?_, ?_, ?_⟩
  · rw [← e0]; unfold Addr.add; simp
  · rw [← e1]; unfold Addr.add; simp
  · rw [← e2]; unfold Addr.add; simp
  · rw [← e3]; unfold Addr.add; simp
theorem Pcs.nextR {w : World} {S : Nat → Prop} {t : T} {vs : List Value} {k : Nat} (h : Pcs encR w S t vs k) (hk : 0 < k) :
    (∃ u t' vs', t = lits u t' ∧ vs = litR u ++ vs' ∧ Pcs encR w S t' vs' (k - 1)) ∨
    ∃ n o A m c us i t' vs', t = .var n o i t' ∧ vs = varR n o A m c ++ vs' ∧ Pcs encR w S i us m ∧ m ≤ 4398046511104 ∧ (0 < m → ∃ ad, A = some ad ∧ S ad.block ∧ ∀ j u, us[j]? = some u → w.cell? (ad.add j) = some u) ∧ Pcs encR w S t' vs' (k - 1) ∧ n ≠ [] := by
  cases h with
  | nil => omega
  | lit u h => exact .inl ⟨u, _, _, rfl, rfl, h⟩
  | var n o hn hm hA h1 h2 => exact .inr ⟨n, o, _, _, _, _, _, _, _, rfl, rfl, h1, hm, hA, h2, hn⟩
theorem Pcs.zeroR {w : World} {S : Nat → Prop} {t : T} {vs : List Value} (h : Pcs encR w S t vs 0) : t = .nil := by
  generalize hk : 0 = k at h
  cases h with
  | nil => rfl
  | lit _ _ => cases hk
  | var _ _ _ _ _ _ _ => cases hk
theorem infoByteR : (Tryd.prog.info? 5).map (fun i => (i.zero, i.size, i.bytes)) = some (some (.int .u8 0), 1, 1) := by kernel_rfl
/-- Bytes of the call's own. -/
def OwnB (w : World) (B : Nat) (v : Value) (l : List UInt8) : Prop := w.ownsRow B 5 1 v l.length (Lib.byteCells l)
theorem OwnB.form {w : World} {B : Nat} {v : Value} {l : List UInt8} (h : OwnB w B v l) : ∃ A c, v = .slice A l.length c := by obtain ⟨A, c, h, _⟩ := own_readsN h; exact ⟨A, c, h⟩
/-- What put leaves. -/
def RPutPost (B : Nat) (out x : List UInt8) (w : World) (e : Ending) (w' : World) : Prop :=
  Below B w w' ∧ ((out.length + x.length ≤ 65536 ∧ ∃ v, e = .returned (.tuple #[v, .bool true]) ∧ OwnB w' B v (out ++ x)) ∨ (¬ out.length + x.length ≤ 65536 ∧ ∃ A n c, e = .returned (.tuple #[.slice A n c, .bool false])))
def RPutC (m : Nat) : Prop := ∀ (t : T) (k c kv cv : Nat) (A Av : Option Addr) (vs : List Value) (S : Nat → Prop) (B : Nat) (v : Value) (out : List UInt8) (vars : List (List UInt8 × List UInt8)) (w : World), t.wt ≤ m → t.wt ≤ 4398046511104 → t.Ops → Pcs encR w S t vs k → Reads w B 4 A k vs →
  (∀ x, S x → x < B) → B ≤ w.heap.size → Reads w B 2 Av kv (px vars) → kv ≤ 4398046511104 → PxLe 140737488355328 vars → OwnB w B v out → out.length ≤ 65536 → k ≤ 4398046511104 →
  Calls Tryd.prog 39 #[v, .slice A k c, .slice Av kv cv] w (RPutPost B out (t.val (valOf vars)) w)
/-- The relation of put's loop. -/
def PI (B k : Nat) (vs : List Value) (S : Nat → Prop) (t : T) (f : List UInt8 → List UInt8) (out : List UInt8) (w : World) (i : Nat) (vo vok : Value) (wr : World) : Prop :=
  Below B w wr ∧ ((vok = .bool true ∧ ∃ (t2 : T) (o' : List UInt8), Pcs encR w S t2 (vs.drop (i * 4)) (k - i) ∧ t2.wt ≤ t.wt ∧ t2.Ops ∧ OwnB wr B vo o' ∧ o' ++ t2.val f = out ++ t.val f ∧ o'.length ≤ 65536) ∨
    (vok = .bool false ∧ (∃ A n c, vo = .slice A n c) ∧ ¬ out.length + (t.val f).length ≤ 65536))
theorem valOf_le {vars : List (List UInt8 × List UInt8)} {N : Nat} (h : PxLe N vars) (n : List UInt8) : (valOf vars n).length ≤ N := by
  unfold valOf
  have : ∀ (l : List (List UInt8 × List UInt8)) (a : List UInt8), (∀ p ∈ l, p.2.length ≤ N) → a.length ≤ N → (l.foldl (fun v p => if p.1 = n then p.2 else v) a).length ≤ N := by
    intro l
    induction l with
    | nil => intro a _ h; exact h
    | cons p l ih => intro a h1 h2; refine ih _ (fun q hq => h1 q (.tail _ hq)) ?_; simp only; split; exact h1 p (.head _); exact h2
  exact this vars [] (fun p hp => (h p hp).2) (by simp)
theorem ownB_app {w : World} {B : Nat} {v : Value} {l u : List UInt8} (h : w.ownsRow B 5 1 v (l.length + (⟨u.toArray⟩ : ByteArray).size) (Lib.byteCells l ++ Lib.strCells ⟨u.toArray⟩)) : OwnB w B v (l ++ u) := by
  unfold OwnB
  rw [List.length_append, byteCells_app]
  exact h
set_option maxHeartbeats 8000000 in
set_option maxRecDepth 100000 in
theorem rput_step (m : Nat) (hR : ∀ m', m' < m → RPutC m') : RPutC m := by
  intro t k c kv cv A Av vs S B v out vars w hm hw hops hp hr hS hB hrv hkv hle ho hol hk
  obtain ⟨i0, hi0, hz0, hz1, hz2⟩ := info_parts infoByteR
  have HI0 : Hid (PI B k vs S t (valOf vars) out w 0 v (.bool true) w) := Lib.hid ⟨Below.refl _ _, .inl ⟨rfl, t, out, by simpa using hp, Nat.le_refl _, hops, ho, rfl, hol⟩⟩
  have HRD := Lib.hid hr
  have HRV := Lib.hid hrv
  have HS := Lib.hid hS
  have HLE := Lib.hid hle
  have HRR := Lib.hid hR
  have HW := Lib.hid hw
  have HM := Lib.hid hm
  have HP := Lib.hid hp
  clear hp hr hS hrv hle ho hol hR hw hm hops
  obtain ⟨f, hf⟩ : ∃ f, f = valOf vars := ⟨_, rfl⟩
  have HF := Lib.hid hf
  rw [← hf] at HI0 ⊢
  have HVL : Hid (∀ n wx, Below B w wx → Calls Tryd.prog 57 #[.slice Av kv cv, .string ⟨n.toArray⟩] wx fun x w' => x = .returned (.string ⟨(f n).toArray⟩) ∧ wx = w') := Lib.hid (fun n wx hb => by
    rw [hf]; exact valueR_any n vars Av kv cv B wx (HRV.out.below hb) hkv)
  have HFL : Hid (∀ n, (f n).length ≤ 140737488355328) := Lib.hid (fun n => by rw [hf]; exact valOf_le HLE.out n)
  clear hf
  go_enter Tryd.func39, Tryd.ntmps39
  go_wp2_with fail
  go_loopw [0, 8, 9] (fun vo vok vi wr => ∃ i : Nat, i ≤ k ∧ vi = .int .i64 i ∧ Hid (PI B k vs S t f out w i vo vok wr)) (fun _ _ vi _ => k - (intOf vi).toNat)
  case atStart => exact ⟨0, by omega, rfl, HI0⟩
  case round =>
    clear HI0
    obtain ⟨i, hi, rfl, HR⟩ := hrel
    obtain ⟨hb, ⟨rfl, t2, o', hp2, ht2, hop2, ho2, heq, hol2⟩ | ⟨rfl, ⟨A9, n9, c9, rfl⟩, hno⟩⟩ := HR.out
    · obtain ⟨A1, c1, rfl⟩ := ho2.form
      by_cases hlt : i < k
      · have HB := Lib.hid hb
        have HO2 := Lib.hid ho2
        have hol3 := hol2
        have HLA : Hid (∀ (x : List UInt8) (t3 : T), t2.val f = x ++ t3.val f → (o' ++ x) ++ t3.val f = out ++ t.val f) := Lib.hid (fun x t3 h1 => by rw [List.append_assoc, ← h1, heq])
        have HLN : Hid (∀ (x : List UInt8) (t3 : T), t2.val f = x ++ t3.val f → ¬ o'.length + x.length ≤ 65536 → ¬ out.length + (t.val f).length ≤ 65536) := Lib.hid (fun x t3 h1 h2 => by
          have := congrArg List.length heq
          rw [h1] at this
          simp only [List.length_append] at this
          omega)
        rcases hp2.nextR (by omega) with ⟨u, t3, vs3, rfl, hvs, hp3⟩ | ⟨n, o, A2, m2, c2, us, i2, t3, vs3, rfl, hvs, hpi, hm2, hA2, hp3, hn⟩
        · obtain ⟨ad, rfl, _, k0, k1, k2, k3⟩ := at_four (HRD.out.below hb) hlt (by rw [hvs]; rfl)
          have hd3 : vs3 = vs.drop ((i + 1) * 4) := by
            have := congrArg (List.drop 4) hvs
            rw [List.drop_drop] at this
            rw [show (i + 1) * 4 = i * 4 + 4 by omega]
            exact this.symm
          subst hd3
          have HNX : Hid (∀ (v' : Value) (w' : World), Below B w w' → OwnB w' B v' (o' ++ u) → (o' ++ u).length ≤ 65536 → PI B k vs S t f out w (i + 1) v' (.bool true) w') := Lib.hid (fun v' w' h1 h2 h3 =>
            ⟨h1, .inl ⟨rfl, t3, _, by rw [show k - (i + 1) = k - i - 1 by omega]; exact hp3, by rw [wt_lits] at ht2; omega, (ops_lits _ _).1 hop2, h2, HLA.out u t3 (val_lits _ _ _), h3⟩⟩)
          have HBD := Lib.hid (HLN.out u t3 (val_lits _ _ _))
          have hul : u.length ≤ 4398046511104 := by rw [wt_lits] at ht2; have := HW.out; omega
          clear hb ho2 heq hol2 hvs hp3 hp2 ht2 hop2 HR HLA HLN
          by_cases hfit : o'.length + u.length ≤ 65536
          · have b12 : decide (65536 < (o'.length : Int) + (u.length : Int)) = false := by rw [decide_eq_false_iff_not]; omega
            have HF2 : Hid ((o' ++ u).length ≤ 65536) := Lib.hid (by rw [List.length_append]; exact hfit)
            go_wp2_with (at_builtin; refine Lib.wpList_append_own_string _ rfl _ _ 54 9 rfl B 5 i0 Tryd.underlying54 Tryd.underlying9 hi0 hz0 hz1 hz2 _ _ _ rfl (World.ownsRow.alloc HO2.out _) ⟨u.toArray⟩ rfl (by simp [maxLen, ByteArray.size]; omega) (by simp [ByteArray.size]; omega) (by have := HB.out.size; simp; omega) ?_; intro v6 w6 h1 h2 _; have HN6 := Lib.hid (HNX.out v6 w6 (Below.grown (HB.out.alloc (by have := HB.out.size; omega) _) h2 (by have := HB.out.size; simp; omega) (fun j hj => (World.ownsRow.lt HO2.out j hj).1)) (ownB_app h1) HF2.out); clear h1 h2)
            go_roundw
            case rel => exact ⟨i + 1, by omega, by go_num, HN6⟩
            case measure => simp [intOf]; omega
          · have b12 : decide (65536 < (o'.length : Int) + (u.length : Int)) = true := by rw [decide_eq_true_iff]; omega
            have HF2 := Lib.hid (HBD.out hfit)
            have HBA := Lib.hid (fun o => HB.out.alloc (show B ≤ wr.heap.size by have := HB.out.size; omega) o)
            clear hfit
            go_wp2_with fail
            go_ret2
            exact ⟨HBA.out _, .inr ⟨HF2.out, _, _, _, rfl⟩⟩
        · obtain ⟨ad, rfl, _, k0, k1, k2, k3⟩ := at_four (HRD.out.below hb) hlt (by rw [hvs]; rfl)
          have hd3 : vs3 = vs.drop ((i + 1) * 4) := by
            have := congrArg (List.drop 4) hvs
            rw [List.drop_drop] at this
            rw [show (i + 1) * 4 = i * 4 + 4 by omega]
            exact this.symm
          subst hd3
          have hni : n.isEmpty = false := ne_of_isEmpty hn
          have hwt2 : n.length + 1 + i2.wt + t3.wt ≤ t.wt := by simpa [T.wt] using ht2
          have hnl : n.length ≤ 4398046511104 := by have := HW.out; omega
          obtain ⟨x, hx⟩ : ∃ x, x = vval f n o i2 := ⟨_, rfl⟩
          have hvv : T.val f (.var n o i2 t3) = x ++ t3.val f := by rw [hx]; rfl
          have HVV := Lib.hid hx
          have HNX : Hid (∀ (v' : Value) (w' : World), Below B w w' → OwnB w' B v' (o' ++ x) → (o' ++ x).length ≤ 65536 → PI B k vs S t f out w (i + 1) v' (.bool true) w') := Lib.hid (fun v' w' h1 h2 h3 =>
            ⟨h1, .inl ⟨rfl, t3, _, by rw [show k - (i + 1) = k - i - 1 by omega]; exact hp3, by omega, hop2.2.2, h2, HLA.out x t3 hvv, h3⟩⟩)
          have HBD := Lib.hid (HLN.out x t3 hvv)
          have HPIN : Hid (∀ w6 v6, Below B w w6 → OwnB w6 B v6 o' → Calls Tryd.prog 39 #[v6, .slice A2 m2 c2, .slice Av kv cv] w6 (RPutPost B o' (i2.val f) w6)) := Lib.hid (fun w6 v6 h1 h2 => by
            have := HRR.out (n.length + i2.wt) (by have := HM.out; omega) i2 m2 c2 kv cv A2 Av us S B v6 o' vars w6 (by omega) (by have := HW.out; omega) hop2.2.1 (hpi.kept fun p hp => h1.cell (HS.out _ hp)) ⟨by have := hpi.len; simpa [encR] using this, fun h => by
              obtain ⟨ad2, e2, hS2, hc2⟩ := hA2 h
              exact ⟨ad2, e2, HS.out _ hS2, fun j u hu => (h1.cell (by rw [block_of_add]; exact HS.out _ hS2)).trans (hc2 j u hu)⟩⟩ HS.out (Nat.le_trans hB h1.size) (HRV.out.below h1) hkv HLE.out h2 hol3 hm2
            rw [← HF.out] at this
            exact this)
          have HVN := Lib.hid (HVL.out n (wr.alloc (.cells #[.string ⟨#[]⟩, .string ⟨n.toArray⟩, .int .u8 o.toNat, .slice A2 m2 c2] 74)) (HB.out.alloc (by have := HB.out.size; omega) _))
          have HUL := Lib.hid (HFL.out n)
          have HBX := Lib.hid (Blk.new wr 74 #[.string ⟨#[]⟩, .string ⟨n.toArray⟩, .int .u8 o.toNat, .slice A2 m2 c2])
          have HNB : Hid ((Value.slice A1 o'.length c1).ownBlock ≠ some wr.heap.size) := Lib.hid (fun e => by have := (World.ownsRow.lt HO2.out _ e).2; omega)
          obtain ⟨u, hu⟩ : ∃ u, u = f n := ⟨_, rfl⟩
          unfold vval at HVV
          rw [← hu] at HVN HUL HVV
          have hoc := hop2.1
          clear hb ho2 heq hol2 hvs hp3 hp2 ht2 hop2 HR HLA HLN hvv hx hpi hA2 hn hu hwt2 hnl HVL
          by_cases hu0 : u = []
          · subst hu0
            rcases hoc with rfl | rfl | rfl
            · have hx : x = [] := by have := HVV.out; simpa using this
              subst hx
              have b12 : decide (65536 < (o'.length : Int)) = false := by rw [decide_eq_false_iff_not]; omega
              have b12' : ¬ 65536 < o'.length := by omega
              have HF2 : Hid ((o' ++ ([] : List UInt8)).length ≤ 65536) := Lib.hid (by simpa using hol3)
              go_wp2_with fail
              refine HVN.out.mono ?_
              rintro e w' ⟨rfl, rfl⟩
              go_wp2_with (at_builtin; refine Lib.wpList_append_own_string _ rfl _ _ 54 9 rfl B 5 i0 Tryd.underlying54 Tryd.underlying9 hi0 hz0 hz1 hz2 _ _ _ rfl (World.ownsRow.alloc HO2.out _) ⟨([] : List UInt8).toArray⟩ rfl (by simp [maxLen, ByteArray.size]; omega) (by simp [ByteArray.size]; omega) (by have := HB.out.size; simp; omega) ?_; intro v6 w6 h1 h2 _; have HN6 := Lib.hid (HNX.out v6 w6 (Below.grown (HB.out.alloc (by have := HB.out.size; omega) _) h2 (by have := HB.out.size; simp; omega) (fun j hj => (World.ownsRow.lt HO2.out j hj).1)) (ownB_app h1) HF2.out); clear h1 h2)
              go_roundw
              case rel => exact ⟨i + 1, by omega, by go_num, HN6⟩
              case measure => simp [intOf]; omega
            · have hx : x = i2.val f := by have := HVV.out; simpa using this
              subst hx
              have b12 : decide (65536 < (o'.length : Int)) = false := by rw [decide_eq_false_iff_not]; omega
              have b12' : ¬ 65536 < o'.length := by omega
              go_wp2_with fail
              refine HVN.out.mono ?_
              rintro e w' ⟨rfl, rfl⟩
              go_wp2_with (at_builtin; refine Lib.wpList_append_own_string _ rfl _ _ 54 9 rfl B 5 i0 Tryd.underlying54 Tryd.underlying9 hi0 hz0 hz1 hz2 _ _ _ rfl (World.ownsRow.alloc HO2.out _) ⟨([] : List UInt8).toArray⟩ rfl (by simp [maxLen, ByteArray.size]; omega) (by simp [ByteArray.size]; omega) (by have := HB.out.size; simp; omega) ?_; intro v6 w6 h1 h2 _; have HB6 := Lib.hid (Below.grown (HB.out.alloc (by have := HB.out.size; omega) _) h2 (by have := HB.out.size; simp; omega) (fun j hj => (World.ownsRow.lt HO2.out j hj).1)); have HO6 : Hid (OwnB w6 B v6 o') := Lib.hid (by have := ownB_app h1; rwa [List.append_nil] at this); have hbx := (HBX.out.grown h2 (fun e => HNB.out e.symm)).cell 3; simp only [List.getElem?_toArray, List.getElem?_cons_zero, List.getElem?_cons_succ] at hbx; obtain ⟨A6, c6, rfl⟩ := HO6.out.form; clear h1 h2)
              refine (HPIN.out w6 _ HB6.out HO6.out).mono ?_
              rintro e w7 ⟨hb7, ⟨hf7, v7, rfl, ho7⟩ | ⟨hf7, A7, n7, c7, rfl⟩⟩
              · have HN6 := Lib.hid (HNX.out v7 w7 (HB6.out.trans hb7) ho7 (by rw [List.length_append]; exact hf7))
                obtain ⟨A7, c7, rfl⟩ := ho7.form
                clear hb7 hf7 ho7
                rw [List.length_append] at HN6
                go_wp2_with fail
                go_roundw
                case rel => exact ⟨i + 1, by omega, by go_num, HN6⟩
                case measure => simp [intOf]; omega
              · have HN6 : Hid (PI B k vs S t f out w (i + 1) (.slice A7 n7 c7) (.bool false) w7) := Lib.hid ⟨HB6.out.trans hb7, .inr ⟨rfl, ⟨_, _, _, rfl⟩, HBD.out hf7⟩⟩
                clear hb7 hf7
                go_wp2_with fail
                go_roundw
                case rel => exact ⟨i + 1, by omega, by go_num, HN6⟩
                case measure => simp [intOf]; omega
            · have hx : x = [] := by have := HVV.out; simpa using this
              subst hx
              have b12 : decide (65536 < (o'.length : Int)) = false := by rw [decide_eq_false_iff_not]; omega
              have b12' : ¬ 65536 < o'.length := by omega
              have HF2 : Hid ((o' ++ ([] : List UInt8)).length ≤ 65536) := Lib.hid (by simpa using hol3)
              go_wp2_with fail
              refine HVN.out.mono ?_
              rintro e w' ⟨rfl, rfl⟩
              go_wp2_with (at_builtin; refine Lib.wpList_append_own_string _ rfl _ _ 54 9 rfl B 5 i0 Tryd.underlying54 Tryd.underlying9 hi0 hz0 hz1 hz2 _ _ _ rfl (World.ownsRow.alloc HO2.out _) ⟨([] : List UInt8).toArray⟩ rfl (by simp [maxLen, ByteArray.size]; omega) (by simp [ByteArray.size]; omega) (by have := HB.out.size; simp; omega) ?_; intro v6 w6 h1 h2 _; have HN6 := Lib.hid (HNX.out v6 w6 (Below.grown (HB.out.alloc (by have := HB.out.size; omega) _) h2 (by have := HB.out.size; simp; omega) (fun j hj => (World.ownsRow.lt HO2.out j hj).1)) (ownB_app h1) HF2.out); clear h1 h2)
              go_roundw
              case rel => exact ⟨i + 1, by omega, by go_num, HN6⟩
              case measure => simp [intOf]; omega
          · have hui := ne_of_isEmpty hu0
            have HUN := Lib.hid hu0
            clear hu0
            rcases hoc with rfl | rfl | rfl
            · have hx : x = u := by have := HVV.out; simpa using this
              subst hx
              have hul : x.length ≤ 140737488355328 := HUL.out
              go_wp2_with fail
              refine HVN.out.mono ?_
              rintro e w' ⟨rfl, rfl⟩
              by_cases hfit : o'.length + x.length ≤ 65536
              · have b12 : decide (65536 < (o'.length : Int) + (x.length : Int)) = false := by rw [decide_eq_false_iff_not]; omega
                have HF2 : Hid ((o' ++ x).length ≤ 65536) := Lib.hid (by rw [List.length_append]; exact hfit)
                go_wp2_with (at_builtin; refine Lib.wpList_append_own_string _ rfl _ _ 54 9 rfl B 5 i0 Tryd.underlying54 Tryd.underlying9 hi0 hz0 hz1 hz2 _ _ _ rfl (World.ownsRow.alloc HO2.out _) ⟨x.toArray⟩ rfl (by simp [maxLen, ByteArray.size]; omega) (by simp [ByteArray.size]; omega) (by have := HB.out.size; simp; omega) ?_; intro v6 w6 h1 h2 _; have HN6 := Lib.hid (HNX.out v6 w6 (Below.grown (HB.out.alloc (by have := HB.out.size; omega) _) h2 (by have := HB.out.size; simp; omega) (fun j hj => (World.ownsRow.lt HO2.out j hj).1)) (ownB_app h1) HF2.out); clear h1 h2)
                go_roundw
                case rel => exact ⟨i + 1, by omega, by go_num, HN6⟩
                case measure => simp [intOf]; omega
              · have b12 : decide (65536 < (o'.length : Int) + (x.length : Int)) = true := by rw [decide_eq_true_iff]; omega
                have HF2 := Lib.hid (HBD.out hfit)
                have HBA := Lib.hid (fun o => HB.out.alloc (show B ≤ wr.heap.size by have := HB.out.size; omega) o)
                clear hfit
                go_wp2_with fail
                go_ret2
                exact ⟨HBA.out _, .inr ⟨HF2.out, _, _, _, rfl⟩⟩
            · have hx : x = u := by have := HVV.out; simpa [HUN.out] using this
              subst hx
              have hul : x.length ≤ 140737488355328 := HUL.out
              go_wp2_with fail
              refine HVN.out.mono ?_
              rintro e w' ⟨rfl, rfl⟩
              by_cases hfit : o'.length + x.length ≤ 65536
              · have b12 : decide (65536 < (o'.length : Int) + (x.length : Int)) = false := by rw [decide_eq_false_iff_not]; omega
                have HF2 : Hid ((o' ++ x).length ≤ 65536) := Lib.hid (by rw [List.length_append]; exact hfit)
                go_wp2_with (at_builtin; refine Lib.wpList_append_own_string _ rfl _ _ 54 9 rfl B 5 i0 Tryd.underlying54 Tryd.underlying9 hi0 hz0 hz1 hz2 _ _ _ rfl (World.ownsRow.alloc HO2.out _) ⟨x.toArray⟩ rfl (by simp [maxLen, ByteArray.size]; omega) (by simp [ByteArray.size]; omega) (by have := HB.out.size; simp; omega) ?_; intro v6 w6 h1 h2 _; have HN6 := Lib.hid (HNX.out v6 w6 (Below.grown (HB.out.alloc (by have := HB.out.size; omega) _) h2 (by have := HB.out.size; simp; omega) (fun j hj => (World.ownsRow.lt HO2.out j hj).1)) (ownB_app h1) HF2.out); clear h1 h2)
                go_roundw
                case rel => exact ⟨i + 1, by omega, by go_num, HN6⟩
                case measure => simp [intOf]; omega
              · have b12 : decide (65536 < (o'.length : Int) + (x.length : Int)) = true := by rw [decide_eq_true_iff]; omega
                have HF2 := Lib.hid (HBD.out hfit)
                have HBA := Lib.hid (fun o => HB.out.alloc (show B ≤ wr.heap.size by have := HB.out.size; omega) o)
                clear hfit
                go_wp2_with fail
                go_ret2
                exact ⟨HBA.out _, .inr ⟨HF2.out, _, _, _, rfl⟩⟩
            · have hx : x = i2.val f := by have := HVV.out; simpa [HUN.out] using this
              subst hx
              have b12 : decide (65536 < (o'.length : Int)) = false := by rw [decide_eq_false_iff_not]; omega
              have b12' : ¬ 65536 < o'.length := by omega
              go_wp2_with fail
              refine HVN.out.mono ?_
              rintro e w' ⟨rfl, rfl⟩
              go_wp2_with (at_builtin; refine Lib.wpList_append_own_string _ rfl _ _ 54 9 rfl B 5 i0 Tryd.underlying54 Tryd.underlying9 hi0 hz0 hz1 hz2 _ _ _ rfl (World.ownsRow.alloc HO2.out _) ⟨([] : List UInt8).toArray⟩ rfl (by simp [maxLen, ByteArray.size]; omega) (by simp [ByteArray.size]; omega) (by have := HB.out.size; simp; omega) ?_; intro v6 w6 h1 h2 _; have HB6 := Lib.hid (Below.grown (HB.out.alloc (by have := HB.out.size; omega) _) h2 (by have := HB.out.size; simp; omega) (fun j hj => (World.ownsRow.lt HO2.out j hj).1)); have HO6 : Hid (OwnB w6 B v6 o') := Lib.hid (by have := ownB_app h1; rwa [List.append_nil] at this); have hbx := (HBX.out.grown h2 (fun e => HNB.out e.symm)).cell 3; simp only [List.getElem?_toArray, List.getElem?_cons_zero, List.getElem?_cons_succ] at hbx; obtain ⟨A6, c6, rfl⟩ := HO6.out.form; clear h1 h2)
              refine (HPIN.out w6 _ HB6.out HO6.out).mono ?_
              rintro e w7 ⟨hb7, ⟨hf7, v7, rfl, ho7⟩ | ⟨hf7, A7, n7, c7, rfl⟩⟩
              · have HN6 := Lib.hid (HNX.out v7 w7 (HB6.out.trans hb7) ho7 (by rw [List.length_append]; exact hf7))
                obtain ⟨A7, c7, rfl⟩ := ho7.form
                clear hb7 hf7 ho7
                rw [List.length_append] at HN6
                go_wp2_with fail
                go_roundw
                case rel => exact ⟨i + 1, by omega, by go_num, HN6⟩
                case measure => simp [intOf]; omega
              · have HN6 : Hid (PI B k vs S t f out w (i + 1) (.slice A7 n7 c7) (.bool false) w7) := Lib.hid ⟨HB6.out.trans hb7, .inr ⟨rfl, ⟨_, _, _, rfl⟩, HBD.out hf7⟩⟩
                clear hb7 hf7
                go_wp2_with fail
                go_roundw
                case rel => exact ⟨i + 1, by omega, by go_num, HN6⟩
                case measure => simp [intOf]; omega
      · have hik : k - i = 0 := by omega
        rw [hik] at hp2
        have ht0 := hp2.zeroR
        subst ht0
        have hov : o' = out ++ t.val f := by simpa [T.val] using heq
        have HO2 : Hid (OwnB wr B (.slice A1 o'.length c1) (out ++ t.val f)) := Lib.hid (by rw [← hov]; exact ho2)
        have HF2 : Hid (out.length + (t.val f).length ≤ 65536) := Lib.hid (by rw [← List.length_append, ← hov]; exact hol2)
        have HB := Lib.hid hb
        clear hik hp2 ht2 hop2 heq hol2 hov ho2 hb HR
        go_wp2_with fail
        go_ret2
        exact ⟨HB.out, .inl ⟨HF2.out, _, rfl, HO2.out⟩⟩
    · have HB := Lib.hid hb
      have HN := Lib.hid hno
      clear hb hno HR
      by_cases hlt : i < k
      all_goals
        go_wp2_with fail
        go_ret2
        exact ⟨HB.out, .inr ⟨HN.out, _, _, _, rfl⟩⟩
theorem rput_all (m : Nat) : RPutC m := by
  induction m using Nat.strongRecOn with
  | ind m ih => exact rput_step m ih
end Exp
end Go.Proofs.YtnmnhnhlggbijaaDoor
