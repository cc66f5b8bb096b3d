/-
  Parts of the proof: CfM, CfL, CfA.
-/
import Derived.Test.YtjohdaobhonioaaGreatDoorPkFo12
import Derived.IntWalk
import Derived.Test.YtjohdaobhonioaaGreatDoorPkFo7
import Derived.Test.YtjohdaobhonioaaGreatDoorPkFo10
namespace Go.Proofs.YtjohdaobhonioaaGreatDoor
namespace Js.Cf
structure Pc where
 dig : B
 size : Int
structure Mf where
 cfg : Pc
 layers : List Pc
def kDig : B := [100, 105, 103, 101, 115, 116]
def kMedia : B := [109, 101, 100, 105, 97, 84, 121, 112, 101]
def kSize : B := [115, 105, 122, 101]
def kSchema : B := [115, 99, 104, 101, 109, 97, 86, 101, 114, 115, 105, 111, 110]
def kLayers : B := [108, 97, 121, 101, 114, 115]
def vMan : B := [97, 112, 112, 108, 105, 99, 97, 116, 105, 111, 110, 47, 118, 110, 100, 46, 111, 99, 105, 46, 105, 109, 97, 103, 101, 46, 109, 97, 110, 105, 102, 101, 115, 116, 46, 118, 49, 43, 106, 115, 111, 110]
def vCfgT : B := [97, 112, 112, 108, 105, 99, 97, 116, 105, 111, 110, 47, 118, 110, 100, 46, 111, 99, 105, 46, 105, 109, 97, 103, 101, 46, 99, 111, 110, 102, 105, 103, 46, 118, 49, 43, 106, 115, 111, 110]
def vLayT : B := [97, 112, 112, 108, 105, 99, 97, 116, 105, 111, 110, 47, 118, 110, 100, 46, 111, 99, 105, 46, 105, 109, 97, 103, 101, 46, 108, 97, 121, 101, 114, 46, 118, 49, 46, 116, 97, 114, 43, 103, 122, 105, 112]
def pcT (media : B) (p : Pc) : V := tO [(kDig, tT (Plain.digText p.dig)), (kMedia, tT media), (kSize, tN p.size)]
def mfT (m : Mf) : V := tO [(kSchema, tN 2), (kMedia, tT vMan), (kCfg, pcT vCfgT m.cfg), (kLayers, tL (m.layers.map (pcT vLayT)))]
def wM (m : Mf) : Nat := if 1024 < m.layers.length then 5 else if m.cfg.size < 0 ∨ ∃ p ∈ m.layers, p.size < 0 then 1 else 0
def pcW (media : B) (p : Pc) : B := objB [(kDig, quoted (Plain.digText p.dig)), (kMedia, quoted media), (kSize, decI p.size)]
def mfB (m : Mf) : B := objB [(kCfg, pcW vCfgT m.cfg), (kLayers, 91 :: (commas (m.layers.map (pcW vLayT)) ++ [93])), (kMedia, quoted vMan), (kSchema, [50])]
def mfP (m : Mf) : B × Nat := if wM m ≠ 0 then ([], wM m) else printed (mfT m).1 (mfT m).2
def mfR (m : Mf) : B × Nat := if wM m ≠ 0 then ([], wM m) else (mfB m, 0)
def PcOk (p : Pc) : Prop := p.dig.length = 32 /\ -9223372036854775808 ≤ p.size /\ p.size ≤ 9223372036854775807
def MfOk (m : Mf) : Prop := PcOk m.cfg /\ ∀ p ∈ m.layers, PcOk p
theorem wM_zero {m : Mf} (h : wM m = 0) : m.layers.length ≤ 1024 /\ 0 ≤ m.cfg.size /\ ∀ p ∈ m.layers, 0 ≤ p.size := by
 unfold wM at h
 split at h
 . cases h
 . split at h
   . cases h
   . rename_i h1 h2
     rw [not_or] at h2
     exact ⟨by omega, by omega, fun p hp => Classical.byContradiction fun hc => h2.2 ⟨p, hp, by omega⟩⟩
theorem frm_pc (media : B) (p : Pc) : frm (pcT media p) = pcW media p := by
 unfold pcT
 rw [frm_O]; rfl
theorem frm_mf (m : Mf) : frm (mfT m) = mfB m := by
 have e2 : frm (tL (m.layers.map (pcT vLayT))) = 91 :: (commas (m.layers.map (pcW vLayT)) ++ [93]) := by
  rw [frm_L, List.map_map]
  have e : m.layers.map (frm ∘ pcT vLayT) = m.layers.map (pcW vLayT) := List.map_congr_left fun p _ => frm_pc _ p
  rw [e]
 have e3 : decI 2 = [50] := by unfold decI Lib.itoa; rw [if_neg (by decide), show (2 : Int).toNat = 2 from rfl, Lib.decDigits, dif_pos (by decide)]; rfl
 unfold mfT mfB
 rw [frm_O, <- e2, <- frm_pc, <- e3]
 rfl
theorem wr_pc {d : Nat} (hd : d + 1 ≤ 32) {media : B} (hm : wrong media = none) (p : Pc) : Wr d (pcT media p) True := by
 have hlow : ∀ k : B, k ∈ [kDig, kMedia, kSize] -> wrong k = none := fun k hk => wrong_low (by revert k; decide)
 refine (wr_M (by omega) (l := [(kDig, tT (Plain.digText p.dig)), (kMedia, tT media), (kSize, tN p.size)]) (show [kDig, kMedia, kSize].Nodup by decide) (wrf_cons (hlow _ (by simp)) (wr_T hd _) (wrf_cons (hlow _ (by simp)) (wr_T hd _) (wrf_cons (hlow _ (by simp)) (wr_plain hd 3 (by decide) (by decide) _) (wrf_nil _))))).iff ?_
 simp [dig_low, hm]
theorem wr_mf (m : Mf) : wr 1 (mfT m) = 0 := by
 have hlow : ∀ k : B, k ∈ [kSchema, kMedia, kCfg, kLayers, vMan, vCfgT, vLayT] -> wrong k = none := fun k hk => wrong_low (by revert k; decide)
 have hl : Wr 2 (tL (m.layers.map (pcT vLayT))) (∀ p ∈ m.layers, True) := wr_L (by decide) fun p _ => wr_pc (by decide) (hlow _ (by simp)) p
 refine (wr_M (by decide) (l := [(kSchema, tN 2), (kMedia, tT vMan), (kCfg, pcT vCfgT m.cfg), (kLayers, tL (m.layers.map (pcT vLayT)))]) (show [kSchema, kMedia, kCfg, kLayers].Nodup by decide) (wrf_cons (hlow _ (by simp)) (wr_plain (by decide) 3 (by decide) (by decide) 2) (wrf_cons (hlow _ (by simp)) (wr_T (by decide) _) (wrf_cons (hlow _ (by simp)) (wr_pc (by decide) (hlow _ (by simp)) _) (wrf_cons (hlow _ (by simp)) hl (wrf_nil _)))))).1 ?_
 simp [hlow vMan]
theorem dec_len : ∀ (k n : Nat), 1 ≤ k -> n < 10 ^ k -> (Lib.decDigits n).length ≤ k := by
 intro k
 induction k with
 | zero => intro n h; omega
 | succ k ih =>
  intro n _ h
  rw [Lib.decDigits]
  split
  . simp
  . rename_i h10
    rw [List.length_append]
    have hk : 1 ≤ k := by
     rcases Nat.eq_zero_or_pos k with h0 | h0
     . subst h0; simp at h; omega
     . exact h0
    have := ih (n / 10) hk (by rw [Nat.pow_succ] at h; omega)
    simp; omega
theorem decI_len {z : Int} (h0 : -9223372036854775808 ≤ z) (h1 : z ≤ 9223372036854775807) : (decI z).length ≤ 20 := by
 unfold decI Lib.itoa
 split
 . have := dec_len 19 z.natAbs (by decide) (by omega)
   simp only [List.length_cons]; omega
 . have := dec_len 19 z.toNat (by decide) (by omega)
   omega
theorem pcW_len {media : B} {p : Pc} (h : PcOk p) : (pcW media p).length ≤ 6 * media.length + 600 := by
 have h1 := quoted_len (Plain.digText p.dig)
 rw [Plain.digText_length, h.1] at h1
 have h2 := quoted_len media
 have h3 := decI_len h.2.1 h.2.2
 have e := objB_len [(kDig, quoted (Plain.digText p.dig)), (kMedia, quoted media), (kSize, decI p.size)]
 have a1 := member_len (kDig, quoted (Plain.digText p.dig))
 have a2 := member_len (kMedia, quoted media)
 have a3 := member_len (kSize, decI p.size)
 simp only [show kDig.length = 6 from rfl, show kMedia.length = 9 from rfl, show kSize.length = 4 from rfl] at a1 a2 a3
 simp only [sizeT, List.map_cons, List.map_nil, List.sum_cons, List.sum_nil, List.length_cons, List.length_nil] at e
 unfold pcW
 omega
theorem mfB_len {m : Mf} (h : m.layers.length ≤ 1024) (ho : MfOk m) : (mfB m).length ≤ 4194304 := by
 have h1 := pcW_len (media := vCfgT) ho.1
 have h2 : (91 :: (commas (m.layers.map (pcW vLayT)) ++ [93])).length ≤ 900 * m.layers.length + 2 := by
  have := commas_map_len (f := pcW vLayT) (g := fun p : Pc => 0 * 0 + 900) (l := m.layers) (fun p hp => by
   have := pcW_len (media := vLayT) (ho.2 p hp)
   rw [show vLayT.length = 43 from rfl] at this
   omega)
  rw [sum_mul_add (f := fun _ : Pc => 0)] at this
  simp only [List.length_cons, List.length_append, List.length_nil]; omega
 have e := objB_len [(kCfg, pcW vCfgT m.cfg), (kLayers, 91 :: (commas (m.layers.map (pcW vLayT)) ++ [93])), (kMedia, quoted vMan), (kSchema, [50])]
 have a1 := member_len (kCfg, pcW vCfgT m.cfg)
 have a2 := member_len (kLayers, 91 :: (commas (m.layers.map (pcW vLayT)) ++ [93]))
 have a3 := member_len (kMedia, quoted vMan)
 have a4 := member_len (kSchema, [50])
 simp only [show kCfg.length = 6 from rfl, show kLayers.length = 6 from rfl, show kMedia.length = 9 from rfl, show kSchema.length = 13 from rfl, show (quoted vMan).length = 44 from rfl, List.length_cons, List.length_nil] at a1 a2 a3 a4 h2
 simp only [sizeT, List.map_cons, List.map_nil, List.sum_cons, List.sum_nil, List.length_cons, List.length_nil] at e
 rw [show vCfgT.length = 40 from rfl] at h1
 unfold mfB
 omega
theorem mf_same {m : Mf} (ho : MfOk m) : mfP m = mfR m := by
 unfold mfP mfR
 by_cases h : wM m = 0
 . rw [if_neg (by simp [h]), if_neg (by simp [h])]
   have hl := mfB_len (wM_zero h).1 ho
   unfold printed
   show (if wr 1 (mfT m) ≠ 0 then ([], wr 1 (mfT m)) else if 4194304 < (frm (mfT m)).length then ([], 5) else (frm (mfT m), 0)) = _
   rw [wr_mf, frm_mf, if_neg (by simp), if_neg (by omega)]
 . rw [if_pos (by simp [h]), if_pos (by simp [h])]
def exPc (x : V) : Option Pc := match Plain.digParse (atJ x kDig).1.text with
 | none => none
 | some d => some ⟨d, (atJ x kSize).1.num⟩
def exPcs : List V -> Option (List Pc)
 | [] => some []
 | x :: r => match exPc x with
  | none => none
  | some p => match exPcs r with
   | none => none
   | some l => some (p :: l)
def exMf (v : V) : Option Mf := match exPc (atJ v kCfg) with
 | none => none
 | some c => match exPcs (toL (atJ v kLayers).2) with
  | none => none
  | some l => some ⟨c, l⟩
def progM (s : B) : Option Mf := match parse s with
 | .err _ _ => none
 | .ok h k _ => match exMf (h, k) with
  | none => none
  | some m => if mfP m = (s, 0) then some m else none
theorem ex_pc {p : Pc} (media : B) (h : p.dig.length = 32) : exPc (pcT media p) = some p := by
 have e1 : ∀ a b c : V, atJ (tO [(kDig, a), (kMedia, b), (kSize, c)]) kDig = a := fun _ _ _ => rfl
 have e2 : ∀ a b c : V, atJ (tO [(kDig, a), (kMedia, b), (kSize, c)]) kSize = c := fun _ _ _ => rfl
 unfold exPc pcT
 rw [e1, e2]
 simp only [tT, tN, Plain.digParse_digText _ h]
theorem ex_pcs {media : B} : ∀ {l : List Pc}, (∀ p ∈ l, p.dig.length = 32) -> exPcs (l.map (pcT media)) = some l
 | [], _ => rfl
 | p :: r, h => by
  rw [List.map_cons, exPcs, ex_pc media (h p (by simp))]
  simp only
  rw [ex_pcs fun q hq => h q (by simp [hq])]
theorem nrm_pc (media : B) (p : Pc) : nrm (pcT media p) = pcT media p := by
 unfold pcT
 rw [nrm_O]; rfl
theorem nrm_mf (m : Mf) : nrm (mfT m) = tO [(kCfg, pcT vCfgT m.cfg), (kLayers, tL (m.layers.map (pcT vLayT))), (kMedia, tT vMan), (kSchema, tN 2)] := by
 have e2 : nrm (tL (m.layers.map (pcT vLayT))) = tL (m.layers.map (pcT vLayT)) := by
  rw [nrm_L, List.map_map]
  have e : m.layers.map (nrm ∘ pcT vLayT) = m.layers.map (pcT vLayT) := List.map_congr_left fun p _ => nrm_pc _ p
  rw [e]
 unfold mfT
 rw [nrm_O]
 show tO [(kCfg, nrm (pcT vCfgT m.cfg)), (kLayers, nrm (tL (m.layers.map (pcT vLayT)))), (kMedia, tT vMan), (kSchema, tN 2)] = _
 rw [e2, nrm_pc]
theorem ex_mf {m : Mf} (ho : MfOk m) : exMf (nrm (mfT m)) = some m := by
 have e1 : ∀ a b c d : V, atJ (tO [(kCfg, a), (kLayers, b), (kMedia, c), (kSchema, d)]) kCfg = a := fun _ _ _ _ => rfl
 have e2 : ∀ a b c d : V, atJ (tO [(kCfg, a), (kLayers, b), (kMedia, c), (kSchema, d)]) kLayers = b := fun _ _ _ _ => rfl
 rw [nrm_mf]
 unfold exMf
 rw [e1, e2, ex_pc _ ho.1.1]
 have : toL (tL (m.layers.map (pcT vLayT))).2 = m.layers.map (pcT vLayT) := toL_ofL _
 simp only [this, ex_pcs fun p hp => (ho.2 p hp).1]
theorem nok_pc {media : B} {p : Pc} (h : PcOk p) : Nok (pcT media p) := by
 refine nok_O fun q hq => ?_
 simp only [List.mem_cons, List.not_mem_nil, or_false] at hq
 rcases hq with rfl | rfl | rfl
 . exact nok_T _
 . exact nok_T _
 . exact ⟨h.2, trivial⟩
theorem nok_mf {m : Mf} (ho : MfOk m) : Nok (mfT m) := by
 refine nok_O fun q hq => ?_
 simp only [List.mem_cons, List.not_mem_nil, or_false] at hq
 rcases hq with rfl | rfl | rfl | rfl
 . exact ⟨by simp [NumOk, tN], trivial⟩
 . exact nok_T _
 . exact nok_pc ho.1
 . exact nok_L fun v hv => by obtain ⟨p, hp, rfl⟩ := List.mem_map.1 hv; exact nok_pc (ho.2 p hp)
theorem progM_ok {s r : B} {h : Hd} {k : F} {m : Mf} (hp : parse s = .ok h k r) (he : exMf (h, k) = some m) : progM s = if mfP m = (s, 0) then some m else none := by
 unfold progM
 rw [hp]
 simp only [he]
theorem progM_back {m : Mf} {s : B} (ho : MfOk m) (h : mfR m = (s, 0)) : progM s = some m := by
 have h' := h
 unfold mfR at h
 split at h
 . rename_i h0
   injection h with _ h2
   exact absurd h2 h0
 . rename_i h0
   injection h with h _
   have hw : wM m = 0 := Decidable.not_not.1 h0
   have hl := mfB_len (wM_zero hw).1 ho
   have h1 := parse_form (h := (mfT m).1) (k := (mfT m).2) (wr_mf m) (nok_mf ho).1 (nok_mf ho).2 (by show (frm (mfT m)).length ≤ _; rw [frm_mf]; exact hl)
   have h2 : form (mfT m).1 (mfT m).2 = s := by rw [<- h]; exact frm_mf m
   rw [h2] at h1
   rw [progM_ok h1 (ex_mf ho), mf_same ho, if_pos h']
theorem digit_iff {c : UInt8} : digitB c = true ↔ 48 ≤ c.toNat /\ c.toNat ≤ 57 := by unfold digitB; simp
end Js.Cf
end Go.Proofs.YtjohdaobhonioaaGreatDoor
namespace Go.Proofs.YtjohdaobhonioaaGreatDoor
namespace Js.Cf
theorem imgP_form {i : Img} {s : B} (h : imgP i = (s, 0)) : w0 i = 0 /\ wr 1 (imgT i) = 0 /\ frm (imgT i) = s /\ s.length ≤ 4194304 := by
 by_cases h0 : w0 i = 0
 . unfold imgP at h
   rw [if_neg (by simp [h0])] at h
   unfold printed at h
   by_cases hw : wrongs 1 (imgT i).1 (imgT i).2 ≠ 0
   . rw [if_pos hw] at h
     have h2 : wrongs 1 (imgT i).1 (imgT i).2 = 0 := congrArg Prod.snd h
     exact absurd h2 hw
   . rw [if_neg hw] at h
     by_cases hl : 4194304 < (form (imgT i).1 (imgT i).2).length
     . rw [if_pos hl] at h
       have h2 : (5 : Nat) = 0 := congrArg Prod.snd h
       cases h2
     . rw [if_neg hl] at h
       have h2 : form (imgT i).1 (imgT i).2 = s := congrArg Prod.fst h
       exact ⟨h0, Decidable.not_not.1 hw, h2, by rw [<- h2]; exact Nat.le_of_not_lt hl⟩
 . unfold imgP at h
   rw [if_pos h0] at h
   exact absurd (congrArg Prod.snd h) h0
theorem mfP_form {m : Mf} {s : B} (h : mfP m = (s, 0)) : wM m = 0 /\ wr 1 (mfT m) = 0 /\ frm (mfT m) = s /\ s.length ≤ 4194304 := by
 by_cases h0 : wM m = 0
 . unfold mfP at h
   rw [if_neg (by simp [h0])] at h
   unfold printed at h
   by_cases hw : wrongs 1 (mfT m).1 (mfT m).2 ≠ 0
   . rw [if_pos hw] at h
     have h2 : wrongs 1 (mfT m).1 (mfT m).2 = 0 := congrArg Prod.snd h
     exact absurd h2 hw
   . rw [if_neg hw] at h
     by_cases hl : 4194304 < (form (mfT m).1 (mfT m).2).length
     . rw [if_pos hl] at h
       have h2 : (5 : Nat) = 0 := congrArg Prod.snd h
       cases h2
     . rw [if_neg hl] at h
       have h2 : form (mfT m).1 (mfT m).2 = s := congrArg Prod.fst h
       exact ⟨h0, Decidable.not_not.1 hw, h2, by rw [<- h2]; exact Nat.le_of_not_lt hl⟩
 . unfold mfP at h
   rw [if_pos h0] at h
   exact absurd (congrArg Prod.snd h) h0
theorem progI_parse {s : B} {i : Img} (h : progI s = some i) : ∃ h k q, parse s = .ok h k q := by
 unfold progI at h
 split at h
 . cases h
 . rename_i a b c e
   exact ⟨a, b, c, e⟩
theorem progM_parse {s : B} {m : Mf} (h : progM s = some m) : ∃ h k q, parse s = .ok h k q := by
 unfold progM at h
 split at h
 . cases h
 . rename_i a b c e
   exact ⟨a, b, c, e⟩
theorem no_head {v : V} {p x : B} (hw : wr 1 v = 0) (hn : Nok v) (h6 : (norm v.1 v.2).1.kind ≠ 3) (e : frm v = p ++ x) (hx : x ≠ []) : ∀ h k q, parse p ≠ .ok h k q := by
 intro h k q hp
 obtain ⟨_, _, _, r, hv, _⟩ := parse_ok hp
 exact heads (form_rds hw hn.1 hn.2) h6 e.symm hx hv
theorem img_heads {p x : B} {i : Img} (h : progI (p ++ x) = some i) (hx : x ≠ []) : progI p = none := by
 obtain ⟨_, hw, hf, _⟩ := imgP_form (prog_some h).1
 have := no_head hw (nok_img i) (by show (6 : Int) ≠ 3; decide) hf hx
 cases hp : progI p with
 | none => rfl
 | some k =>
  obtain ⟨a, b, c, e⟩ := progI_parse hp
  exact absurd e (this a b c)
theorem exPc_ok {x : V} {p : Pc} (hn : NumOk (atJ x kSize).1) (h : exPc x = some p) : PcOk p := by
 unfold exPc at h
 split at h
 . cases h
 . rename_i d hd
   injection h with h
   subst h
   refine ⟨?_, hn⟩
   unfold Plain.digParse at hd
   split at hd
   . injection hd with hd; rw [<- hd]; exact Plain.accL_length _ _
   . cases hd
theorem nok_toL : ∀ {f : F}, f.All NumOk -> ∀ x ∈ toL f, Nok x
 | .nil, _, x, hx => by simp [toL] at hx
 | .cons h k r, hf, x, hx => by
  rcases List.mem_cons.1 hx with rfl | hx
  . exact ⟨hf.1, hf.2.1⟩
  . exact nok_toL hf.2.2 x hx
theorem nok_at {v : V} (hv : Nok v) (key : B) : Nok (atJ v key) := by
 unfold atJ getP
 split
 . cases h : placeL v.1.keys key with
   | none => exact ⟨by simp [NumOk, tZ, plainH], trivial⟩
   | some j =>
    simp only [Option.bind_some]
    cases hj : (toL v.2)[j]? with
    | none => exact ⟨by simp [NumOk, tZ, plainH], trivial⟩
    | some x => exact nok_toL hv.2 x (List.mem_of_getElem? hj)
 . exact ⟨by simp [NumOk, tZ, plainH], trivial⟩
theorem exPcs_ok : ∀ {l : List V} {ps : List Pc}, (∀ x ∈ l, Nok x) -> exPcs l = some ps -> ∀ p ∈ ps, PcOk p
 | [], ps, _, h => by injection h with h; subst h; simp
 | x :: r, ps, hn, h => by
  rw [exPcs] at h
  split at h
  . cases h
  . rename_i p hp
    split at h
    . cases h
    . rename_i l hl
      injection h with h
      subst h
      intro q hq
      rcases List.mem_cons.1 hq with rfl | hq
      . exact exPc_ok (nok_at (hn x (by simp)) _).1 hp
      . exact exPcs_ok (fun y hy => hn y (by simp [hy])) hl q hq
theorem exMf_ok {v : V} {m : Mf} (hn : Nok v) (h : exMf v = some m) : MfOk m := by
 unfold exMf at h
 split at h
 . cases h
 . rename_i c hc
   split at h
   . cases h
   . rename_i l hl
     injection h with h
     subst h
     exact ⟨exPc_ok (nok_at (nok_at hn _) _).1 hc, exPcs_ok (nok_toL (nok_at hn _).2) hl⟩
theorem progM_some {s : B} {m : Mf} (h : progM s = some m) : mfP m = (s, 0) /\ MfOk m := by
 unfold progM at h
 split at h
 . cases h
 . rename_i a b c e
   obtain ⟨_, _, _, h1, h2, _⟩ := parse_good e
   split at h
   . cases h
   . rename_i m' hm
     split at h
     . rename_i hx
       injection h with h
       subst h
       exact ⟨hx, exMf_ok ⟨h1, h2⟩ hm⟩
     . cases h
theorem mf_heads {p x : B} {m : Mf} (h : progM (p ++ x) = some m) (hx : x ≠ []) : progM p = none := by
 obtain ⟨h1, ho⟩ := progM_some h
 obtain ⟨_, hw, hf, _⟩ := mfP_form h1
 have := no_head hw (nok_mf ho) (by show (6 : Int) ≠ 3; decide) hf hx
 cases hp : progM p with
 | none => rfl
 | some k =>
  obtain ⟨a, b, c, e⟩ := progM_parse hp
  exact absurd e (this a b c)
end Js.Cf
end Go.Proofs.YtjohdaobhonioaaGreatDoor
namespace Go.Proofs.YtjohdaobhonioaaGreatDoor
open Go.RowKit
namespace Js.Cf
def pastC (l : List (B × Bool)) : List Value := l.flatMap fun p => [.string ⟨p.1.toArray⟩, .bool p.2]
def digC (l : List B) : List Value := l.flatMap Lib.byteCells
def pcV (p : Pc) : List Value := Lib.byteCells p.dig ++ [.int .i64 p.size]
def pcC (l : List Pc) : List Value := l.flatMap pcV
theorem bytes_len (d : B) : (Lib.byteCells d).length = d.length := by simp [Lib.byteCells]
section flat
variable {α : Type}
theorem flat_get {f : α -> List Value} {k : Nat} : ∀ {l : List α}, (∀ x ∈ l, (f x).length = k) -> ∀ {i : Nat} {x : α}, l[i]? = some x -> ∀ j, j < k -> (l.flatMap f)[i * k + j]? = (f x)[j]?
 | [], _, i, x, hx, _, _ => by simp at hx
 | y :: r, h, 0, x, hx, j, hj => by
  simp only [List.getElem?_cons_zero, Option.some.injEq] at hx
  subst hx
  rw [List.flatMap_cons, Nat.zero_mul, Nat.zero_add, List.getElem?_append_left (by rw [h y (by simp)]; exact hj)]
 | y :: r, h, i + 1, x, hx, j, hj => by
  simp only [List.getElem?_cons_succ] at hx
  have := flat_get (l := r) (fun z hz => h z (by simp [hz])) hx j hj
  have hy := h y (by simp)
  rw [List.flatMap_cons, List.getElem?_append_right (by rw [hy, Nat.add_mul]; omega), hy, show (i + 1) * k + j - k = i * k + j by rw [Nat.add_mul]; omega, this]
theorem at_flat {w : World} {B' n k : Nat} {A : Option Addr} {f : α -> List Value} {l : List α} (hf : ∀ x ∈ l, (f x).length = k) (h : Reads w B' k A n (l.flatMap f)) (hn : l.length = n) {i : Nat} {x : α} (hx : l[i]? = some x) :
  ∃ ad, A = some ad /\ ad.block < B' /\ ∀ j v, (f x)[j]? = some v -> w.cell? ((ad.add (i * k)).add j) = some v := by
 have hi : i < l.length := by
  rcases Nat.lt_or_ge i l.length with h1 | h1
  . exact h1
  . rw [List.getElem?_eq_none h1] at hx; cases hx
 obtain ⟨ad, hA, hb, hc⟩ := h.2 (by omega)
 refine ⟨ad, hA, hb, fun j v hv => ?_⟩
 have hj : j < k := by
  rcases Nat.lt_or_ge j k with h1 | h1
  . exact h1
  . rw [List.getElem?_eq_none (by rw [hf x (List.mem_of_getElem? hx)]; exact h1)] at hv; cases hv
 rw [add_of_add]
 exact hc _ v (by rw [flat_get hf hx j hj]; exact hv)
end flat
section load
variable {P : Program} {ops : Array Oper}
theorem run_loadAt_any (w : World) (p : Addr) (ty : TypeId) (cs : List Value) (d : TypeDesc) (hc : ∀ j v, cs[j]? = some v -> w.cell? (p.add j) = some v)
  (hu : P.underlying ty = some d) (hd : d.isRow = true) (hi : (P.info? ty).map (·.size) = some cs.length) : (Instr.loadAt ty (.pointer (some p))).run P w = .ok (.agg cs.toArray) w := by
 have hl : (loadCells p cs.length).run P w = .ok cs.toArray w := run_loadCells_list (P := P) w p cs hc
 have hv : (loadVar ty p).run P w = .ok (.agg cs.toArray) w := by
  cases hq : P.info? ty with
  | none => simp [hq] at hi
  | some i =>
   have hs : i.size = cs.length := by simpa [hq] using hi
   have hagg : (isAgg ty).run P w = .ok true w := by
    unfold isAgg
    rw [Sem.run_bind, run_underlying hu w]
    cases d <;> simp_all [TypeDesc.isRow]
   simp [loadVar, Sem.run_bind, hagg, sizeOf, typeInfo, hq, hs, hl]
 simp only [Instr.loadAt, Instr.sureAddr, Sem.run_bind, Sem.run_pure, Result.andThen_ok, hv]
theorem wp_load_any {op : Oper} {a : Act} {w : World} {K : Act -> World -> Prop} {Q : Exit -> Act -> World -> Prop} (ty : TypeId) (x : Operand) (ho : op.op = .load ty x)
  (p : Addr) (hx : a.eval x = .pointer (some p)) (cs : List Value) (d : TypeDesc) (hc : ∀ j v, cs[j]? = some v -> w.cell? (p.add j) = some v)
  (hu : P.underlying ty = some d) (hd : d.isRow = true) (hi : (P.info? ty).map (·.size) = some cs.length) (h : K (a.put op.dst (.agg cs.toArray)) w) : op.wp P a w K Q := by
 unfold Oper.wp execOp
 simp only [ho, hx, Sem.run_bind, Sem.run_pure, Result.andThen_ok, run_loadAt_any w p ty cs d hc hu hd hi]
 exact h
theorem wpList_load_any {rest : List Oper} {op : Oper} {a : Act} {w : World} {Q : Exit -> Act -> World -> Prop} (hgd : op.guard = none) (ty : TypeId) (x : Operand) (ho : op.op = .load ty x)
  (p : Addr) (hx : a.eval x = .pointer (some p)) (cs : List Value) (d : TypeDesc) (hc : ∀ j v, cs[j]? = some v -> w.cell? (p.add j) = some v)
  (hu : P.underlying ty = some d) (hd : d.isRow = true) (hi : (P.info? ty).map (·.size) = some cs.length) (h : wpList P ops Q rest (a.put op.dst (.agg cs.toArray)) w) : wpList P ops Q (op :: rest) a w :=
 wpList_plain hgd fun _ hK => wp_load_any ty x ho p hx cs d hc hu hd hi (hK _ _ h)
end load
theorem past_len (x : B × Bool) : (([.string ⟨x.1.toArray⟩, .bool x.2] : List Value)).length = 2 := rfl
theorem pcV_len {p : Pc} (h : p.dig.length = 32) : (pcV p).length = 33 := by unfold pcV; rw [List.length_append, bytes_len, h]; rfl
def ImgR (w : World) (B' : Nat) (i : Img) (cs : Array Value) : Prop :=
 ∃ A1 c1 A2 c2 A3 c3 A4 c4 A5 c5 A6 c6 A7 c7, cs = #[.slice A1 i.cfg.env.length c1, .string ⟨i.cfg.dir.toArray⟩, .string ⟨i.cfg.user.toArray⟩, .slice A2 i.cfg.ports.length c2, .slice A3 i.cfg.labels.length c3,
   .slice A4 i.cfg.cmd.length c4, .slice A5 i.cfg.entry.length c5, .slice A6 i.past.length c6, .slice A7 i.diffs.length c7] /\
  Reads w B' 2 A1 i.cfg.env.length (px i.cfg.env) /\ Reads w B' 1 A2 i.cfg.ports.length (tx i.cfg.ports) /\ Reads w B' 2 A3 i.cfg.labels.length (px i.cfg.labels) /\ Reads w B' 1 A4 i.cfg.cmd.length (tx i.cfg.cmd) /\
  Reads w B' 1 A5 i.cfg.entry.length (tx i.cfg.entry) /\ Reads w B' 2 A6 i.past.length (pastC i.past) /\ Reads w B' 32 A7 i.diffs.length (digC i.diffs) /\ ∀ d ∈ i.diffs, d.length = 32
end Js.Cf
end Go.Proofs.YtjohdaobhonioaaGreatDoor
