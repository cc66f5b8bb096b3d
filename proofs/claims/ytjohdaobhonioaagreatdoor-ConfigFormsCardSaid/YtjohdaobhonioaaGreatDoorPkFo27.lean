/-
  Parts of the proof: CfGd, CfV, CfC, CfF.
-/
import Derived.Test.YtjohdaobhonioaaGreatDoorPkFo26
import Derived.Test.YtjohdaobhonioaaGreatDoorPkFo12
import Derived.Lib.AtoiAll
import Derived.Lib.CutLaws
import Derived.Lib.Join
import Derived.Test.YtjohdaobhonioaaGreatDoorPkFo17
namespace Go.Proofs.YtjohdaobhonioaaGreatDoor
open Go.RowKit
namespace Js.Cf
theorem sz_at {f : F} {i : Nat} {x : V} (e : (toL f)[i]? = some x) : x.2.sz + 1 ≤ f.sz := by
 induction f generalizing i with
 | nil => simp [toL] at e
 | cons h k r _ ih =>
  cases i with
  | zero => simp [toL] at e; subst e; simp only [F.sz]; omega
  | succ i => have := ih (i := i) (by simpa [toL] using e); simp only [F.sz]; omega
theorem deep_le : ∀ (f : F) (d : Nat), wrongsF d f = 0 -> trim f = f -> d ≤ 33 -> f.deep + d ≤ 33
 | .nil, d, _, _, hd => by simp only [F.deep]; omega
 | .cons h k r, d, hw, ht, hd => by
  obtain ⟨h1, h2⟩ := wrongsF_zero hw
  obtain ⟨h3, h4⟩ := wrongs_zero h1
  obtain ⟨h5, _⟩ := own_zero h3
  rw [trim_cons] at ht
  injection ht with t1 t2 t3
  have e2 := deep_le r d h2 t3 hd
  have e1 : k.deep + (d + 1) ≤ 33 := by
   unfold trimK at t2
   split at t2
   . exact deep_le k (d + 1) (h4 (by omega)) t2 (by omega)
   . rw [<- t2]; simp only [F.deep]; omega
  simp only [F.deep]
  omega
def hm (h : Hd) : Nat := h.text.length + ((h.keys.map List.length).sum + h.keys.length)
def F.wt : F -> Nat
 | .nil => 0
 | .cons h k r => hm h + (F.wt k + F.wt r)
theorem atom_wt {s : B} {h : Hd} {k : F} {r : B} (hx : atom s = some (.ok h k r)) : hm h + r.length ≤ s.length := by
 have hl := atom_len hx
 have key : h.keys = [] /\ h.text.length + r.length ≤ s.length := by
  unfold atom at hx
  split at hx
  . obtain ⟨rfl, rfl, rfl⟩ : plainH 0 = h /\ F.nil = k /\ s.drop 4 = r := by simpa using hx
    exact ⟨rfl, by simp only [plainH, List.length_nil]; omega⟩
  split at hx
  . obtain ⟨rfl, rfl, rfl⟩ : plainH 1 = h /\ F.nil = k /\ s.drop 5 = r := by simpa using hx
    exact ⟨rfl, by simp only [plainH, List.length_nil]; omega⟩
  split at hx
  . obtain ⟨rfl, rfl, rfl⟩ : plainH 2 = h /\ F.nil = k /\ s.drop 4 = r := by simpa using hx
    exact ⟨rfl, by simp only [plainH, List.length_nil]; omega⟩
  split at hx
  . cases hx
  . rename_i c t _ _ _
    split at hx
    . cases ht : txt t with
      | err no q => rw [ht] at hx; simp [TO.out] at hx
      | ok u q =>
        rw [ht] at hx
        simp only [TO.out, Option.some.injEq, Out.ok.injEq] at hx
        obtain ⟨rfl, _, rfl⟩ := hx
        have := txt_len t.length t u q (Nat.le_refl _) ht
        exact ⟨rfl, by simp only [List.length_cons]; omega⟩
    . split at hx
      . cases hx
      . split at hx
        . simp only [Option.some.injEq] at hx
          unfold numOut at hx
          split at hx
          . simp only [Out.ok.injEq] at hx
            obtain ⟨rfl, _, _⟩ := hx
            exact ⟨rfl, by simp only [List.length_nil]; omega⟩
          . cases hx
        . simp at hx
 unfold hm
 rw [key.1]
 simp only [List.map_nil, List.sum_nil, List.length_nil]
 omega
theorem rd_wt : ∀ (n : Nat) (kd : Kd) (d : Nat) (s : B) (h : Hd) (f : F) (r : B), rd n kd d s = .ok h f r -> hm h + (F.wt f + r.length) ≤ s.length := by
 intro n
 induction n with
 | zero => intro kd d s h f r hx; simp [rd] at hx
 | succ n ih =>
  intro kd d s h f r hx
  cases kd with
  | val =>
   have hb := bl_len s
   unfold rd at hx
   split at hx
   . cases hx
   . rename_i c t hc
     rw [hc] at hb
     simp only [List.length_cons] at hb
     split at hx
     . cases hx
     . split at hx
       . rename_i o ho
         subst hx
         have h1 := atom_wt ho
         have h2 := atom_nil ho
         subst h2
         simp only [List.length_cons] at h1
         simp only [F.wt]; omega
       . split at hx
         . split at hx
           . rename_i q hq
             have h1 := opn_len hq
             injection hx with h0 h2 hx; subst hx h2 h0
             simp only [F.wt, hm, plainH, List.length_nil, List.map_nil, List.sum_nil]; omega
           . have h1 := ih _ _ _ _ _ _ hx
             omega
         . split at hx
           . rename_i q hq
             have h1 := opn_len hq
             injection hx with h0 h2 hx; subst hx h2 h0
             simp only [F.wt, hm, plainH, List.length_nil, List.map_nil, List.sum_nil]; omega
           . have h1 := ih _ _ _ _ _ _ hx
             omega
  | items =>
   unfold rd at hx
   split at hx
   . cases hx
   . rename_i h1 k1 r1 he
     have h2 := ih _ _ _ _ _ _ he
     split at hx
     . cases hx
     . rename_i q hq
       have h3 := nx_len (.inl hq)
       injection hx with h0 h4 hx; subst hx h4 h0
       simp only [F.wt] at h2 ⊢
       rw [show hm (plainH 5) = 0 from rfl]; omega
     . rename_i q hq
       have h3 := nx_len (.inr hq)
       cases hr : rd n .items d q with
       | err no q2 => rw [hr] at hx; cases hx
       | ok h4 k4 r4 =>
         rw [hr] at hx
         injection hx with h0 h5 hx; subst hx h5 h0
         have h6 := ih _ _ _ _ _ _ hr
         simp only [F.wt] at h6 ⊢; omega
  | mems ks =>
   unfold rd at hx
   split at hx
   . cases hx
   . rename_i t p hp
     have h0 := key_len hp
     split at hx
     . cases hx
     . rename_i h1 k1 r1 he
       have h2 := ih _ _ _ _ _ _ he
       split at hx
       . cases hx
       . rename_i q hq
         have h3 := nx_len (.inl hq)
         injection hx with e0 h4 hx; subst hx h4 e0
         simp only [F.wt, hm, List.length_nil, List.length_cons, List.map_cons, List.map_nil, List.sum_cons, List.sum_nil] at h2 ⊢; omega
       . rename_i q hq
         have h3 := nx_len (.inr hq)
         cases hr : rd n (.mems (ks ++ [t])) d q with
         | err no q2 => rw [hr] at hx; cases hx
         | ok h4 k4 r4 =>
           rw [hr] at hx
           injection hx with e0 h5 hx; subst hx h5 e0
           have h6 := ih _ _ _ _ _ _ hr
           simp only [F.wt, hm, List.length_cons, List.map_cons, List.sum_cons] at h2 h6 ⊢; omega
theorem wt_at {f : F} {i : Nat} {x : V} (e : (toL f)[i]? = some x) : hm x.1 + F.wt x.2 ≤ F.wt f := by
 induction f generalizing i with
 | nil => simp [toL] at e
 | cons h k r _ ih =>
  cases i with
  | zero => simp [toL] at e; subst e; simp only [F.wt]; omega
  | succ i => have := ih (i := i) (by simpa [toL] using e); simp only [F.wt]; omega
structure Gd (v : V) : Prop where
 sz : v.2.sz ≤ 4194304
 deep : v.2.deep ≤ 64
 nok : Nok v
 wt : hm v.1 + F.wt v.2 ≤ 4194304
theorem Gd.kid {v x : V} (h : Gd v) {i : Nat} (e : (toL v.2)[i]? = some x) : Gd x := by
 obtain ⟨xh, xk⟩ := x
 have h1 := sz_at e
 have h2 := deep_at e
 have h3 := h.sz
 have h4 := h.deep
 exact ⟨by simp only at h1 ⊢; omega, by simp only at h2 ⊢; omega, nok_toL h.nok.2 _ (List.mem_of_getElem? e), by have := wt_at e; have := h.wt; omega⟩
theorem Gd.zero : Gd tZ := ⟨by simp [tZ, F.sz], by simp [tZ, F.deep], ⟨by simp [NumOk, tZ, plainH], trivial⟩, by simp [tZ, hm, F.wt, plainH]⟩
theorem Gd.at {v : V} (h : Gd v) (key : B) : Gd (atJ v key) := by
 unfold atJ getP
 split
 . cases hp : placeL v.1.keys key with
   | none => exact Gd.zero
   | some j =>
    simp only [Option.bind_some]
    cases hj : (toL v.2)[j]? with
    | none => exact Gd.zero
    | some x => exact h.kid hj
 . exact Gd.zero
theorem Gd.len {v : V} (h : Gd v) : v.2.len ≤ 4194304 := Nat.le_trans (F.len_sz _) h.sz
theorem gd_parse {s r : B} {h : Hd} {k : F} (hx : parse s = .ok h k r) : Gd (h, k) := by
 obtain ⟨h1, h2, h3, q, h4, h5⟩ := parse_ok hx
 obtain ⟨g1, _, g3, g4, g5, g6⟩ := parse_good hx
 obtain ⟨t1, t2⟩ := val_trim h4
 have hs := val_sz h4
 have hwt := rd_wt _ _ _ _ _ _ _ h4
 refine ⟨by simp only; omega, ?_, ⟨g4, g5⟩, by simp only; omega⟩
 unfold trimK at t2
 split at t2
 . have := deep_le k 2 ((wrongs_zero g3).2 (by omega)) t2 (by omega)
   simp only; omega
 . simp only; rw [<- t2]; simp [F.deep]
def readP (x : V) : Pc := ⟨(Plain.digParse (atJ x kDig).1.text).getD Plain.z32, (atJ x kSize).1.num⟩
def badP (x : V) : Bool := (Plain.digParse (atJ x kDig).1.text).isNone
def readM (v : V) : Mf := ⟨readP (atJ v kCfg), (toL (atJ v kLayers).2).map readP⟩
def badM (v : V) : Bool := badP (atJ v kCfg) || (toL (atJ v kLayers).2).any badP
theorem exPc_is (x : V) : exPc x = if badP x = true then none else some (readP x) := by
 unfold exPc badP readP
 cases Plain.digParse (atJ x kDig).1.text <;> simp
theorem exPcs_is : ∀ l : List V, exPcs l = if l.any badP = true then none else some (l.map readP)
 | [] => rfl
 | x :: r => by
  rw [exPcs, exPc_is, exPcs_is r]
  cases hx : badP x <;> cases hr : r.any badP <;> simp [hx, hr]
theorem exMf_is (v : V) : exMf v = if badM v = true then none else some (readM v) := by
 unfold exMf badM readM
 rw [exPc_is, exPcs_is]
 cases hx : badP (atJ v kCfg) <;> cases hr : (toL (atJ v kLayers).2).any badP <;> simp
theorem progM_err {s r : B} {no : Nat} (h : parse s = .err no r) : progM s = none := by unfold progM; rw [h]
theorem progM_bad {s r : B} {h : Hd} {k : F} (hp : parse s = .ok h k r) (hb : badM (h, k) = true ∨ mfP (readM (h, k)) ≠ (s, 0)) : progM s = none := by
 unfold progM
 rw [hp]
 simp only
 rw [exMf_is]
 rcases hb with hb | hb
 . rw [if_pos hb]
 . split
   . rfl
   . rename_i m hm
     split at hm
     . cases hm
     . injection hm with hm
       subst hm
       rw [if_neg hb]
theorem progM_good {s r : B} {h : Hd} {k : F} (hp : parse s = .ok h k r) (hb : badM (h, k) = false) (hm : mfP (readM (h, k)) = (s, 0)) : progM s = some (readM (h, k)) := by
 unfold progM
 rw [hp]
 simp only
 rw [exMf_is, hb]
 simp only [Bool.false_eq_true, if_false]
 rw [if_pos hm]
theorem readP_len (x : V) : (readP x).dig.length = 32 := by
 unfold readP
 cases h : Plain.digParse (atJ x kDig).1.text with
 | none => simp [Plain.z32]
 | some d =>
  unfold Plain.digParse at h
  split at h
  . injection h with h; simp only [Option.getD_some]; rw [<- h]; exact Plain.accL_length _ _
  . cases h
theorem readP_ok {x : V} (h : Gd x) : PcOk (readP x) := ⟨readP_len x, (h.at kSize).nok.1⟩
theorem readM_ok {v : V} (h : Gd v) : MfOk (readM v) := ⟨readP_ok (h.at _), fun p hp => by
 obtain ⟨x, hx, rfl⟩ := List.mem_map.1 hp
 obtain ⟨i, hi⟩ := List.getElem?_of_mem hx
 exact readP_ok ((h.at _).kid hi)⟩
theorem run_json1 (a b c d e : Value) (w : World) : (Instr.field 54 (.agg #[a, b, c, d, e]) 1).run Tryz.prog w = .ok b w := by kernel_rfl
theorem run_json2 (a b c d e : Value) (w : World) : (Instr.field 54 (.agg #[a, b, c, d, e]) 2).run Tryz.prog w = .ok c w := by kernel_rfl
theorem run_json3 (a b c d e : Value) (w : World) : (Instr.field 54 (.agg #[a, b, c, d, e]) 3).run Tryz.prog w = .ok d w := by kernel_rfl
theorem run_json4 (a b c d e : Value) (w : World) : (Instr.field 54 (.agg #[a, b, c, d, e]) 4).run Tryz.prog w = .ok e w := by kernel_rfl
theorem run_json0 (a b c d e : Value) (w : World) : (Instr.field 54 (.agg #[a, b, c, d, e]) 0).run Tryz.prog w = .ok a w := by kernel_rfl
end Js.Cf
end Go.Proofs.YtjohdaobhonioaaGreatDoor
namespace Go.Proofs.YtjohdaobhonioaaGreatDoor
namespace Js.Cf
theorem digit_slash {c : UInt8} (h : digitB c = true) : (c != 47) = true := by
 have := digit_iff.1 h
 have : c ≠ 47 := fun e => by subst e; simp at this
 simpa using this
def portP (s : B) : Bool := match Lib.atoiAll (s.takeWhile (· != 47)) with
 | .ok x => decide (1 ≤ x) && decide (x ≤ 65535) && decide (Lib.itoa x = s.takeWhile (· != 47)) && (decide ((s.dropWhile (· != 47)).drop 1 = [116, 99, 112]) || decide ((s.dropWhile (· != 47)).drop 1 = [117, 100, 112]))
 | _ => false
theorem fold_geN : ∀ (l : B) (n : Nat), n ≤ l.foldl (fun n c => 10 * n + (c.toNat - 48)) n
 | [], n => Nat.le_refl n
 | c :: r, n => by
  have := fold_geN r (10 * n + (c.toNat - 48))
  simp only [List.foldl_cons]; omega
theorem pu10 : ∀ (l : B) (acc : Nat), (∀ c ∈ l, digitB c = true) -> l.foldl (fun n c => 10 * n + (c.toNat - 48)) acc < 1000000000000000000 -> Lib.parseUint10 acc l = .ok (l.foldl (fun n c => 10 * n + (c.toNat - 48)) acc)
 | [], acc, _, _ => rfl
 | c :: r, acc, hd, hv => by
  have hc := digit_iff.1 (hd c (by simp))
  simp only [List.foldl_cons] at hv ⊢
  have hg := fold_geN r (10 * acc + (c.toNat - 48))
  rw [Lib.parseUint10, if_pos hc, if_neg (by omega), if_neg (by omega), Nat.mul_comm acc 10]
  exact pu10 r _ (fun x hx => hd x (by simp [hx])) hv
theorem atoi_dec {u : Nat} (h : u ≤ 65535) : Lib.atoiAll (Lib.decDigits u) = .ok (u : Int) := by
 have hd : ∀ c ∈ Lib.decDigits u, digitB c = true := fun c hc => digit_iff.2 (dec_digits' u c hc)
 have hp := pu10 (Lib.decDigits u) 0 hd (by have := dval_dec u; unfold dval at this; rw [this]; omega)
 have hv : (Lib.decDigits u).foldl (fun n c => 10 * n + (c.toNat - 48)) 0 = u := dval_dec u
 rw [hv] at hp
 obtain ⟨c, r, e, h1, h2⟩ := dec_first u
 have hm : Lib.parseMag (c :: r) = .ok u := by unfold Lib.parseMag; rw [if_neg (by simp), <- e]; exact hp
 rw [e]
 unfold Lib.atoiAll
 simp only
 rw [if_neg (by omega), hm]
 simp only
 rw [if_neg (by omega), if_neg (by omega), if_neg (by omega)]
theorem take_dig {n r : B} (hn : ∀ c ∈ n, digitB c = true) (hr : ∀ c t, r = c :: t -> digitB c = false) : (n ++ r).takeWhile digitB = n /\ (n ++ r).dropWhile digitB = r := by
 rw [List.takeWhile_append_of_pos hn, List.dropWhile_append_of_pos hn]
 cases r with
 | nil => simp
 | cons c t => have := hr c t rfl; simp [this]
theorem take_sl {n r : B} (hn : ∀ c ∈ n, digitB c = true) (hr : ∀ c t, r = c :: t -> c = 47) : (n ++ r).takeWhile (· != 47) = n /\ (n ++ r).dropWhile (· != 47) = r := by
 have h1 : ∀ c ∈ n, (c != 47) = true := fun c hc => digit_slash (hn c hc)
 rw [List.takeWhile_append_of_pos h1, List.dropWhile_append_of_pos h1]
 cases r with
 | nil => simp
 | cons c t => have := hr c t rfl; subst this; simp
def IsPort (s : B) : Prop := ∃ u r, 1 ≤ u /\ u ≤ 65535 /\ (r = [47, 116, 99, 112] ∨ r = [47, 117, 100, 112]) /\ s = Lib.decDigits u ++ r
theorem portB_iff (s : B) : portB s = true ↔ IsPort s := by
 constructor
 . intro h
   unfold portB at h
   simp only [Bool.and_eq_true, Bool.or_eq_true, decide_eq_true_eq] at h
   obtain ⟨⟨⟨h1, h2⟩, h3⟩, h4⟩ := h
   exact ⟨_, _, h1, h2, h4, by rw [h3, List.takeWhile_append_dropWhile]⟩
 . rintro ⟨u, r, h1, h2, hr, rfl⟩
   have hn : ∀ c ∈ Lib.decDigits u, digitB c = true := fun c hc => digit_iff.2 (dec_digits' u c hc)
   have hr' : ∀ c t, r = c :: t -> digitB c = false := by
    intro c t e
    rcases hr with rfl | rfl <;> (injection e with e _; subst e; decide)
   obtain ⟨e1, e2⟩ := take_dig hn hr'
   have hd := dval_dec u
   unfold portB
   simp only [e1, e2, hd, Bool.and_eq_true, Bool.or_eq_true, decide_eq_true_eq]
   exact ⟨⟨⟨h1, h2⟩, trivial⟩, hr⟩
theorem portP_iff (s : B) : portP s = true ↔ IsPort s := by
 constructor
 . intro h
   unfold portP at h
   split at h
   . rename_i x hx
     simp only [Bool.and_eq_true, Bool.or_eq_true, decide_eq_true_eq] at h
     obtain ⟨⟨⟨h1, h2⟩, h3⟩, h4⟩ := h
     have e3 : Lib.decDigits x.toNat = s.takeWhile (· != 47) := by rw [<- h3]; unfold Lib.itoa; rw [if_neg (by omega)]
     have hs := List.takeWhile_append_dropWhile (p := (· != 47)) (l := s)
     rw [<- e3] at hs
     have hdw : ∀ k : B, (s.dropWhile (· != 47)).drop 1 = k -> k ≠ [] -> s.dropWhile (· != 47) = 47 :: k := by
       intro k hk hne
       cases hd : s.dropWhile (· != 47) with
       | nil => rw [hd] at hk; exact absurd hk.symm hne
       | cons c t =>
        have hc : (c != 47) = false := by
         have := List.head?_dropWhile_not (p := (· != 47)) (l := s)
         rw [hd] at this
         simpa using this
        rw [hd] at hk
        simp only [List.drop_succ_cons, List.drop_zero] at hk
        rw [hk]
        have : c = 47 := by simpa using hc
        rw [this]
     refine ⟨x.toNat, s.dropWhile (· != 47), by omega, by omega, ?_, hs.symm⟩
     rcases h4 with h4 | h4
     . exact .inl (hdw _ h4 (by decide))
     . exact .inr (hdw _ h4 (by decide))
   . cases h
 . rintro ⟨u, r, h1, h2, hr, rfl⟩
   have hn : ∀ c ∈ Lib.decDigits u, digitB c = true := fun c hc => digit_iff.2 (dec_digits' u c hc)
   have hr' : ∀ c t, r = c :: t -> c = 47 := by
     intro c t e
     rcases hr with rfl | rfl <;> (injection e with e _; exact e.symm)
   obtain ⟨e1, e2⟩ := take_sl hn hr'
   unfold portP
   rw [e1, e2, atoi_dec h2]
   have e3 : Lib.itoa (u : Int) = Lib.decDigits u := by unfold Lib.itoa; rw [if_neg (by omega)]; rfl
   simp only [e3, Bool.and_eq_true, Bool.or_eq_true, decide_eq_true_eq]
   refine ⟨⟨⟨by omega, by omega⟩, trivial⟩, ?_⟩
   rcases hr with rfl | rfl
   . exact .inl rfl
   . exact .inr rfl
theorem bool_iff {a b : Bool} {P : Prop} (h1 : a = true ↔ P) (h2 : b = true ↔ P) : a = b := by
 cases a <;> cases b <;> simp_all
theorem portP_is (s : B) : portP s = portB s := bool_iff (portP_iff s) (portB_iff s)
theorem cutL_ne (s : B) : cutL s ≠ [] := by
 cases s with
 | nil => simp [cutL]
 | cons c r =>
  unfold cutL
  split
  . simp
  . split <;> simp
theorem cutL_eq (s : B) : cutL s = if 47 ∈ s then s.takeWhile (· != 47) :: cutL ((s.dropWhile (· != 47)).drop 1) else [s] := by
 induction s with
 | nil => rfl
 | cons c r ih =>
  rw [cutL]
  by_cases h : c = 47
  . subst h; simp
  . rw [if_neg h, ih]
    have h' : (c != 47) = true := by simpa using h
    by_cases hm : (47 : UInt8) ∈ r
    . simp [hm, h']
    . simp [hm, Ne.symm h]
end Js.Cf
end Go.Proofs.YtjohdaobhonioaaGreatDoor
namespace Go.Proofs.YtjohdaobhonioaaGreatDoor
namespace Js.Cf
theorem index1 (c : UInt8) : ∀ s : B, Lib.index s [c] = if c ∈ s then ((s.takeWhile (· != c)).length : Int) else -1
 | [] => by simp [Lib.index]
 | b :: l => by
  have ih := index1 c l
  unfold Lib.index
  by_cases h : b = c
  . subst h; simp [List.isPrefixOf]
  . have h' : ([c].isPrefixOf (b :: l)) = false := by simp [List.isPrefixOf, Ne.symm h]
    have hb : (b != c) = true := by simpa using h
    rw [h', ih]
    by_cases hm : c ∈ l
    . have e : ((((l.takeWhile (· != c)).length : Nat) : Int) == -1) = false := by rw [beq_eq_false_iff_ne]; omega
      simp [hm, hb, e]
    . simp [hm, Ne.symm h]
theorem tw_take (c : UInt8) (s : B) : s.take (s.takeWhile (· != c)).length = s.takeWhile (· != c) := by
 conv => lhs; rw [<- List.takeWhile_append_dropWhile (p := (· != c)) (l := s)]
 rw [List.takeWhile_append_dropWhile]
 exact (List.prefix_iff_eq_take.1 (List.takeWhile_prefix _)).symm
theorem tw_drop (c : UInt8) (s : B) : s.drop (s.takeWhile (· != c)).length = s.dropWhile (· != c) := by
 have h := List.takeWhile_append_dropWhile (p := (· != c)) (l := s)
 have h2 := List.take_append_drop (s.takeWhile (· != c)).length s
 rw [tw_take] at h2
 exact List.append_cancel_left (h2.trans h.symm)
theorem tw_none {c : UInt8} {s : B} (h : ¬ c ∈ s) : s.takeWhile (· != c) = s /\ s.dropWhile (· != c) = [] := by
 have h1 : ∀ x ∈ s, (x != c) = true := fun x hx => by
  have : x ≠ c := fun e => h (e ▸ hx)
  simpa using this
 have h2 := List.takeWhile_append_of_pos (p := (· != c)) (l₁ := s) (l₂ := []) h1
 have h3 := List.dropWhile_append_of_pos (p := (· != c)) (l₁ := s) (l₂ := []) h1
 simp only [List.append_nil, List.takeWhile_nil, List.dropWhile_nil] at h2 h3
 exact ⟨h2, h3⟩
theorem cut_is (c : UInt8) (s : B) : Lib.cut s [c] = (s.takeWhile (· != c), (s.dropWhile (· != c)).drop 1, decide (c ∈ s)) := by
 unfold Lib.cut
 rw [index1]
 by_cases h : c ∈ s
 . rw [if_pos h, if_pos (by omega), Int.toNat_natCast, tw_take, <- List.drop_drop, tw_drop]
   simp [h]
 . rw [if_neg h, if_neg (by decide)]
   obtain ⟨h1, h2⟩ := tw_none h
   rw [h1, h2]
   simp [h]
def okB (i : Nat) (c : UInt8) : Bool := letterB c || (decide (i ≠ 0) && digitB c)
theorem varB_yes {s : B} (h : ∀ i c, s[i]? = some c -> okB i c = true) : varB s = decide (s ≠ []) := by
 cases s with
 | nil => rfl
 | cons a r =>
  have h0 : letterB a = true := by simpa [okB] using h 0 a rfl
  have h1 : (r.all fun c => letterB c || digitB c) = true := List.all_eq_true.2 fun c hc => by
   obtain ⟨i, hi⟩ := List.mem_iff_getElem?.1 hc
   have := h (i + 1) c (by simpa using hi)
   simpa [okB] using this
  simp [varB, h0, h1]
theorem varB_no {s : B} {i : Nat} {c : UInt8} (h : s[i]? = some c) (hn : okB i c = false) : varB s = false := by
 cases s with
 | nil => rfl
 | cons a r =>
  show (letterB a && r.all fun c => letterB c || digitB c) = false
  cases i with
  | zero =>
   obtain rfl : a = c := by simpa using h
   have : letterB a = false := by simpa [okB] using hn
   rw [this]; rfl
  | succ i =>
   have h1 : (letterB c || digitB c) = false := by simpa [okB] using hn
   have h2 : (r.all fun c => letterB c || digitB c) = false := by
    cases hx : r.all fun c => letterB c || digitB c with
    | false => rfl
    | true =>
     have := List.all_eq_true.1 hx c (List.mem_of_getElem? (by simpa using h))
     rw [h1] at this; cases this
   rw [h2, Bool.and_false]
theorem okB_toNat (i : Nat) (c : UInt8) : okB i c = (decide (97 ≤ c.toNat /\ c.toNat ≤ 122) || decide (65 ≤ c.toNat /\ c.toNat ≤ 90) || decide (c.toNat = 95) || (decide (i ≠ 0) && decide (48 ≤ c.toNat /\ c.toNat ≤ 57))) := by
 have e : (c == 95) = decide (c.toNat = 95) := by
  by_cases h : c = 95
  . subst h; rfl
  . have : c.toNat ≠ 95 := fun e => h (UInt8.toNat_inj.1 (by simpa using e))
    simp [h, this]
 unfold okB letterB digitB
 rw [e]
theorem slashes_join : ∀ l : List B, slashes l = Lib.join l [47]
 | [] => rfl
 | [x] => by rw [Lib.join_one]; rfl
 | x :: y :: r => by
  have ih := slashes_join (y :: r)
  rw [slashes, ih, Lib.join_cons, Lib.join_cons]
  simp [Lib.joinTail]
def pcs (s : B) : List B := (cutL s).filter (fun p => decide (p ≠ []))
def stepC (st : List B) (p : B) : List B := if p = [46] then st else if p = [46, 46] then st.take (st.length - 1) else st ++ [p]
theorem fold_pcs : ∀ (l st : List B), (l.filter (fun p => decide (p ≠ []))).foldl stepC st = l.foldl stepL st
 | [], _ => rfl
 | p :: r, st => by
  rw [List.foldl_cons, List.filter_cons]
  by_cases h : p = []
  . subst h
    rw [if_neg (by simp), fold_pcs r st]
    rfl
  . rw [if_pos (by simp [h]), List.foldl_cons, fold_pcs r]
    congr 1
    unfold stepC stepL
    by_cases h1 : p = [46]
    . simp [h1]
    . have h2 : ¬ (p = [] ∨ p = [46]) := fun e => e.elim h h1
      rw [if_neg h1, if_neg h2, List.dropLast_eq_take]
theorem clean_is (s : B) : cleanB s = Lib.join ((pcs s).foldl stepC []) [47] := by
 unfold cleanB pcs
 rw [fold_pcs, slashes_join]
def wt (l : List B) : Nat := (l.map fun x => x.length + 1).sum
theorem wt_cons (x : B) (l : List B) : wt (x :: l) = x.length + 1 + wt l := by simp [wt]
theorem wt_app (a b : List B) : wt (a ++ b) = wt a + wt b := by simp [wt]
theorem wt_len (l : List B) : l.length ≤ wt l := by
 induction l with
 | nil => simp
 | cons x r ih => rw [wt_cons, List.length_cons]; omega
theorem wt_take (l : List B) (k : Nat) : wt (l.take k) ≤ wt l := by
 have := wt_app (l.take k) (l.drop k)
 rw [List.take_append_drop] at this
 omega
theorem wt_cut : ∀ s : B, wt (cutL s) = s.length + 1
 | [] => rfl
 | c :: r => by
  have ih := wt_cut r
  unfold cutL
  split
  . rw [wt_cons, ih, List.length_cons, List.length_nil]; omega
  . split
    . rename_i h; exact absurd h (cutL_ne r)
    . rename_i x l h
      rw [h, wt_cons] at ih
      rw [wt_cons, List.length_cons, List.length_cons]; omega
theorem wt_filter (l : List B) (f : B -> Bool) : wt (l.filter f) ≤ wt l := by
 induction l with
 | nil => simp
 | cons x r ih =>
  rw [List.filter_cons]
  split
  . rw [wt_cons, wt_cons]; omega
  . rw [wt_cons]; omega
theorem wt_fold : ∀ (l st : List B), wt (l.foldl stepC st) ≤ wt st + wt l
 | [], st => by simp
 | p :: r, st => by
  have ih := wt_fold r (stepC st p)
  have h : wt (stepC st p) ≤ wt st + (p.length + 1) := by
   unfold stepC
   split
   . omega
   . split
     . have := wt_take st (st.length - 1); omega
     . rw [wt_app, wt_cons]; simp [wt]
  rw [List.foldl_cons, wt_cons]; omega
theorem wt_pcs (s : B) : wt (pcs s) ≤ s.length + 1 := by
 have := wt_filter (cutL s) (fun p => decide (p ≠ []))
 rw [wt_cut] at this
 exact this
theorem join_wt (l : List B) : (Lib.join l [47]).length ≤ wt l := by
 cases l with
 | nil => simp [Lib.join_nil]
 | cons x r =>
  rw [Lib.join_cons, List.length_append, Lib.joinTail_length, wt_cons]
  have : Lib.lens r + r.length = wt r := by
   induction r with
   | nil => rfl
   | cons y r ih => rw [wt_cons, List.length_cons]; simp only [Lib.lens, List.map_cons, List.sum_cons] at ih ⊢; omega
  simp only [List.length_cons, List.length_nil]; omega
theorem pcs_prefix {pre : List B} {s : B} (h : pre <+: cutL s) : pre.filter (fun p => decide (p ≠ [])) <+: pcs s := by
 obtain ⟨t, e⟩ := h
 exact ⟨t.filter (fun p => decide (p ≠ [])), by unfold pcs; rw [<- e, List.filter_append]⟩
theorem fold_len {pre : List B} {s : B} (h : pre <+: pcs s) : (pre.foldl stepC []).length ≤ s.length + 1 /\ wt (pre.foldl stepC []) ≤ s.length + 1 := by
 obtain ⟨t, e⟩ := h
 have h1 := wt_pcs s
 rw [<- e, wt_app] at h1
 have h2 := wt_fold pre []
 have h3 := wt_len (pre.foldl stepC [])
 have h0 : wt [] = 0 := rfl
 omega
end Js.Cf
end Go.Proofs.YtjohdaobhonioaaGreatDoor
namespace Go.Proofs.YtjohdaobhonioaaGreatDoor
namespace Js.Cf
theorem sizeT_cons (x : B) (l : List B) : sizeT (x :: l) = x.length + sizeT l := by simp [sizeT]
theorem sizeT_snoc {l : List B} {k : Nat} {x : B} (h : l[k]? = some x) : sizeT (l.take (k + 1)) = sizeT (l.take k) + x.length := by
 rw [List.take_add_one, h, sizeT_app]
 simp [sizeT]
theorem sizeT_take (l : List B) (k : Nat) : sizeT (l.take k) ≤ sizeT l := by
 have := sizeT_app (l.take k) (l.drop k)
 rw [List.take_append_drop] at this
 omega
theorem sizeT_flat (l : List (B × B)) (p : B × B) : sizeT (flatP (l ++ [p])) = sizeT (flatP l) + (p.1.length + p.2.length) := by
 unfold flatP
 rw [List.flatMap_append, sizeT_app]
 simp [sizeT]
theorem sizeF_snoc {l : List (B × B)} {k : Nat} {p : B × B} (h : l[k]? = some p) : sizeT (flatP (l.take (k + 1))) = sizeT (flatP (l.take k)) + (p.1.length + p.2.length) := by
 rw [List.take_add_one, h]
 exact sizeT_flat _ _
theorem sizeF_take (l : List (B × B)) (k : Nat) : sizeT (flatP (l.take k)) ≤ sizeT (flatP l) := by
 have : sizeT (flatP (l.take k ++ l.drop k)) = sizeT (flatP (l.take k)) + sizeT (flatP (l.drop k)) := by
  unfold flatP
  rw [List.flatMap_append, sizeT_app]
 rw [List.take_append_drop] at this
 omega
theorem size_is (i : Img) : sizeT (textsI i) = i.cfg.dir.length + i.cfg.user.length + (sizeT i.cfg.ports + (sizeT i.cfg.cmd + (sizeT i.cfg.entry + (sizeT (flatP i.cfg.env) + (sizeT (flatP i.cfg.labels) + sizeT (i.past.map Prod.fst)))))) := by
 unfold textsI
 simp only [sizeT_app, sizeT_cons]
 simp [sizeT]
def Big (i : Img) : Prop := 1024 < i.diffs.length ∨ 1024 < i.past.length ∨ 64 < i.cfg.cmd.length ∨ 64 < i.cfg.entry.length ∨ 262144 < sizeT (textsI i)
theorem w0_5 {i : Img} (h : Big i) : w0 i = 5 := by unfold w0; exact if_pos h
theorem w0_8 {i : Img} (h : ¬ Big i) {p : B × B} (hp : p ∈ i.cfg.env) (hv : varB p.1 = false) : w0 i = 8 := by
 unfold w0
 unfold Big at h
 rw [if_neg h, if_pos]
 cases hx : i.cfg.env.all fun p => varB p.1 with
 | false => rfl
 | true => have := List.all_eq_true.1 hx p hp; rw [hv] at this; cases this
theorem dup_mem {l : List B} {k : Nat} {x : B} (h : l[k]? = some x) (hm : x ∈ l.take k) : dupL l = true := by
 cases hd : dupL l with
 | true => rfl
 | false =>
  have hn := nodup_of_dupL hd
  have hk : k < l.length := (List.getElem?_eq_some_iff.1 h).1
  rw [<- List.take_append_drop k l, List.drop_eq_getElem_cons hk] at hn
  have hx : l[k] = x := (List.getElem?_eq_some_iff.1 h).2
  rw [hx] at hn
  exact absurd rfl ((List.nodup_append.1 hn).2.2 x hm x (by simp))
theorem w0_11 {i : Img} (h : ¬ Big i) (hv : ∀ p ∈ i.cfg.env, varB p.1 = true) (hd : dupL (i.cfg.env.map Prod.fst) = true) : w0 i = 11 := by
 unfold w0
 unfold Big at h
 rw [if_neg h, if_neg (by rw [List.all_eq_true.2 hv]; simp), if_pos hd]
theorem w0_4 {i : Img} (h : ¬ Big i) (hv : ∀ p ∈ i.cfg.env, varB p.1 = true) (hd : dupL (i.cfg.env.map Prod.fst) = false) {p : B} (hp : p ∈ i.cfg.ports) (hb : portB p = false) : w0 i = 4 := by
 unfold w0
 unfold Big at h
 rw [if_neg h, if_neg (by rw [List.all_eq_true.2 hv]; simp), if_neg (by rw [hd]; simp), if_pos]
 cases hx : i.cfg.ports.all portB with
 | false => rfl
 | true => have := List.all_eq_true.1 hx p hp; rw [hb] at this; cases this
def Odd (i : Img) : Prop := risesL i.cfg.ports = false ∨ risesL (i.cfg.labels.map Prod.fst) = false ∨ (i.cfg.labels.map Prod.fst).head? = some [] ∨ i.cfg.dir ≠ 47 :: cleanB i.cfg.dir
theorem w0_1 {i : Img} (h : ¬ Big i) (hv : ∀ p ∈ i.cfg.env, varB p.1 = true) (hd : dupL (i.cfg.env.map Prod.fst) = false) (hp : ∀ p ∈ i.cfg.ports, portB p = true) (ho : Odd i) : w0 i = 1 := by
 unfold w0
 unfold Big at h
 rw [if_neg h, if_neg (by rw [List.all_eq_true.2 hv]; simp), if_neg (by rw [hd]; simp), if_neg (by rw [List.all_eq_true.2 hp]; simp)]
 exact if_pos ho
theorem w0_0 {i : Img} (h : ¬ Big i) (hv : ∀ p ∈ i.cfg.env, varB p.1 = true) (hd : dupL (i.cfg.env.map Prod.fst) = false) (hp : ∀ p ∈ i.cfg.ports, portB p = true) (ho : ¬ Odd i) : w0 i = 0 := by
 unfold w0
 unfold Big at h
 rw [if_neg h, if_neg (by rw [List.all_eq_true.2 hv]; simp), if_neg (by rw [hd]; simp), if_neg (by rw [List.all_eq_true.2 hp]; simp)]
 exact if_neg ho
theorem rises_of : ∀ {l : List B}, (∀ k x y, l[k]? = some x -> l[k + 1]? = some y -> lexL x y = true) -> risesL l = true
 | [], _ => rfl
 | [_], _ => rfl
 | x :: y :: r, h => by
  rw [risesL, h 0 x y rfl rfl, rises_of (l := y :: r) fun k a b ha hb => h (k + 1) a b (by simpa using ha) (by simpa using hb)]
  rfl
theorem rises_get : ∀ {l : List B} {i : Nat} {x y : B}, risesL l = true -> l[i]? = some x -> l[i + 1]? = some y -> lexL x y = true
 | [], i, x, y, _, hx, _ => by simp at hx
 | [a], i, x, y, _, hx, hy => by simp at hy
 | a :: b :: r, 0, x, y, h, hx, hy => by
  simp only [risesL, Bool.and_eq_true] at h
  simp at hx hy
  subst hx; subst hy
  exact h.1
 | a :: b :: r, i + 1, x, y, h, hx, hy => by
  simp only [risesL, Bool.and_eq_true] at h
  exact rises_get (l := b :: r) h.2 (by simpa using hx) (by simpa using hy)
theorem rises_no {l : List B} {k : Nat} {x y : B} (hx : l[k]? = some x) (hy : l[k + 1]? = some y) (h : lexL x y = false) : risesL l = false := by
 cases hr : risesL l with
 | false => rfl
 | true => rw [rises_get hr hx hy] at h; cases h
theorem lexL_nil (x : B) : lexL x [] = false := by cases x <;> rfl
theorem label_nil {l : List B} {k : Nat} (h : l[k]? = some []) : risesL l = false ∨ l.head? = some [] := by
 cases k with
 | zero =>
  cases l with
  | nil => simp at h
  | cons a r => right; simpa using h
 | succ k =>
  left
  have hk : k < l.length := by have := (List.getElem?_eq_some_iff.1 h).1; omega
  exact rises_no (List.getElem?_eq_getElem hk) h (lexL_nil _)
theorem head_ne {l : List B} (h : ∀ x ∈ l, x ≠ []) : l.head? ≠ some [] := by
 cases l with
 | nil => simp
 | cons a r => intro e; exact h a (by simp) (by simpa using e)
end Js.Cf
end Go.Proofs.YtjohdaobhonioaaGreatDoor
