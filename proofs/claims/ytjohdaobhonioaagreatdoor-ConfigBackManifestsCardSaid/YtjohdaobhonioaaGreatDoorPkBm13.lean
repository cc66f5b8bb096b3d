/-
  Parts of the proof: CfM, CfL, CfA, CfB.
-/
import Derived.Test.YtjohdaobhonioaaGreatDoorPkBm12
import Derived.IntWalk
import Derived.Test.YtjohdaobhonioaaGreatDoorPkBm7
import Derived.Test.YtjohdaobhonioaaGreatDoorPkBm10
import Derived.Test.YtjohdaobhonioaaGreatDoorPkBm8
import Derived.Laws.CopyOwn
import Derived.Deep.MidRow
namespace Go.Proofs.YtjohdaobhonioaaGreatDoor
namespace Js.Cf
structure Pc where
 dig : B
 size : Int
structure Mf where
 cfg : Pc
 layers : List Pc
def kDig : B := [100, 105, 103, 101, 115, 116]
def kMedia : B := [109, 101, 100, 105, 97, 84, 121, 112, 101]
def kSize : B := [115, 105, 122, 101]
def kSchema : B := [115, 99, 104, 101, 109, 97, 86, 101, 114, 115, 105, 111, 110]
def kLayers : B := [108, 97, 121, 101, 114, 115]
def vMan : B := [97, 112, 112, 108, 105, 99, 97, 116, 105, 111, 110, 47, 118, 110, 100, 46, 111, 99, 105, 46, 105, 109, 97, 103, 101, 46, 109, 97, 110, 105, 102, 101, 115, 116, 46, 118, 49, 43, 106, 115, 111, 110]
def vCfgT : B := [97, 112, 112, 108, 105, 99, 97, 116, 105, 111, 110, 47, 118, 110, 100, 46, 111, 99, 105, 46, 105, 109, 97, 103, 101, 46, 99, 111, 110, 102, 105, 103, 46, 118, 49, 43, 106, 115, 111, 110]
def vLayT : B := [97, 112, 112, 108, 105, 99, 97, 116, 105, 111, 110, 47, 118, 110, 100, 46, 111, 99, 105, 46, 105, 109, 97, 103, 101, 46, 108, 97, 121, 101, 114, 46, 118, 49, 46, 116, 97, 114, 43, 103, 122, 105, 112]
def pcT (media : B) (p : Pc) : V := tO [(kDig, tT (Plain.digText p.dig)), (kMedia, tT media), (kSize, tN p.size)]
def mfT (m : Mf) : V := tO [(kSchema, tN 2), (kMedia, tT vMan), (kCfg, pcT vCfgT m.cfg), (kLayers, tL (m.layers.map (pcT vLayT)))]
def wM (m : Mf) : Nat := if 1024 < m.layers.length then 5 else if m.cfg.size < 0 ∨ ∃ p ∈ m.layers, p.size < 0 then 1 else 0
def pcW (media : B) (p : Pc) : B := objB [(kDig, quoted (Plain.digText p.dig)), (kMedia, quoted media), (kSize, decI p.size)]
def mfB (m : Mf) : B := objB [(kCfg, pcW vCfgT m.cfg), (kLayers, 91 :: (commas (m.layers.map (pcW vLayT)) ++ [93])), (kMedia, quoted vMan), (kSchema, [50])]
def mfP (m : Mf) : B × Nat := if wM m ≠ 0 then ([], wM m) else printed (mfT m).1 (mfT m).2
def mfR (m : Mf) : B × Nat := if wM m ≠ 0 then ([], wM m) else (mfB m, 0)
def PcOk (p : Pc) : Prop := p.dig.length = 32 ∧ -9223372036854775808 ≤ p.size ∧ p.size ≤ 9223372036854775807
def MfOk (m : Mf) : Prop := PcOk m.cfg ∧ ∀ p ∈ m.layers, PcOk p
theorem wM_zero {m : Mf} (h : wM m = 0) : m.layers.length ≤ 1024 ∧ 0 ≤ m.cfg.size ∧ ∀ p ∈ m.layers, 0 ≤ p.size := by
 unfold wM at h
 split at h
 · cases h
 · split at h
   · cases h
   · rename_i h1 h2
     rw [not_or] at h2
     exact ⟨by omega, by omega, fun p hp => Classical.byContradiction fun hc => h2.2 ⟨p, hp, by omega⟩⟩
theorem frm_pc (media : B) (p : Pc) : frm (pcT media p) = pcW media p := by
 unfold pcT
 rw [frm_O]; rfl
theorem frm_mf (m : Mf) : frm (mfT m) = mfB m := by
 have e2 : frm (tL (m.layers.map (pcT vLayT))) = 91 :: (commas (m.layers.map (pcW vLayT)) ++ [93]) := by
  rw [frm_L, List.map_map]
  have e : m.layers.map (frm ∘ pcT vLayT) = m.layers.map (pcW vLayT) := List.map_congr_left fun p _ => frm_pc _ p
  rw [e]
 have e3 : decI 2 = [50] := by unfold decI Lib.itoa; rw [if_neg (by decide), show (2 : Int).toNat = 2 from rfl, Lib.decDigits, dif_pos (by decide)]; rfl
 unfold mfT mfB
 rw [frm_O, ← e2, ← frm_pc, ← e3]
 rfl
theorem wr_pc {d : Nat} (hd : d + 1 ≤ 32) {media : B} (hm : wrong media = none) (p : Pc) : Wr d (pcT media p) True := by
 have hlow : ∀ k : B, k ∈ [kDig, kMedia, kSize] → wrong k = none := fun k hk => wrong_low (by revert k; decide)
 refine (wr_M (by omega) (l := [(kDig, tT (Plain.digText p.dig)), (kMedia, tT media), (kSize, tN p.size)]) (show [kDig, kMedia, kSize].Nodup by decide) (wrf_cons (hlow _ (by simp)) (wr_T hd _) (wrf_cons (hlow _ (by simp)) (wr_T hd _) (wrf_cons (hlow _ (by simp)) (wr_plain hd 3 (by decide) (by decide) _) (wrf_nil _))))).iff ?_
 simp [dig_low, hm]
theorem wr_mf (m : Mf) : wr 1 (mfT m) = 0 := by
 have hlow : ∀ k : B, k ∈ [kSchema, kMedia, kCfg, kLayers, vMan, vCfgT, vLayT] → wrong k = none := fun k hk => wrong_low (by revert k; decide)
 have hl : Wr 2 (tL (m.layers.map (pcT vLayT))) (∀ p ∈ m.layers, True) := wr_L (by decide) fun p _ => wr_pc (by decide) (hlow _ (by simp)) p
 refine (wr_M (by decide) (l := [(kSchema, tN 2), (kMedia, tT vMan), (kCfg, pcT vCfgT m.cfg), (kLayers, tL (m.layers.map (pcT vLayT)))]) (show [kSchema, kMedia, kCfg, kLayers].Nodup by decide) (wrf_cons (hlow _ (by simp)) (wr_plain (by decide) 3 (by decide) (by decide) 2) (wrf_cons (hlow _ (by simp)) (wr_T (by decide) _) (wrf_cons (hlow _ (by simp)) (wr_pc (by decide) (hlow _ (by simp)) _) (wrf_cons (hlow _ (by simp)) hl (wrf_nil _)))))).1 ?_
 simp [hlow vMan]
theorem dec_len : ∀ (k n : Nat), 1 ≤ k → n < 10 ^ k → (Lib.decDigits n).length ≤ k := by
 intro k
 induction k with
 | zero => intro n h; omega
 | succ k ih =>
  intro n _ h
  rw [Lib.decDigits]
  split
  · simp
  · rename_i h10
    rw [List.length_append]
    have hk : 1 ≤ k := by
     rcases Nat.eq_zero_or_pos k with h0 | h0
     · subst h0; simp at h; omega
     · exact h0
    have := ih (n / 10) hk (by rw [Nat.pow_succ] at h; omega)
    simp; omega
theorem decI_len {z : Int} (h0 : -9223372036854775808 ≤ z) (h1 : z ≤ 9223372036854775807) : (decI z).length ≤ 20 := by
 unfold decI Lib.itoa
 split
 · have := dec_len 19 z.natAbs (by decide) (by omega)
   simp only [List.length_cons]; omega
 · have := dec_len 19 z.toNat (by decide) (by omega)
   omega
theorem pcW_len {media : B} {p : Pc} (h : PcOk p) : (pcW media p).length ≤ 6 * media.length + 600 := by
 have h1 := quoted_len (Plain.digText p.dig)
 rw [Plain.digText_length, h.1] at h1
 have h2 := quoted_len media
 have h3 := decI_len h.2.1 h.2.2
 have e := objB_len [(kDig, quoted (Plain.digText p.dig)), (kMedia, quoted media), (kSize, decI p.size)]
 have a1 := member_len (kDig, quoted (Plain.digText p.dig))
 have a2 := member_len (kMedia, quoted media)
 have a3 := member_len (kSize, decI p.size)
 simp only [show kDig.length = 6 from rfl, show kMedia.length = 9 from rfl, show kSize.length = 4 from rfl] at a1 a2 a3
 simp only [sizeT, List.map_cons, List.map_nil, List.sum_cons, List.sum_nil, List.length_cons, List.length_nil] at e
 unfold pcW
 omega
theorem mfB_len {m : Mf} (h : m.layers.length ≤ 1024) (ho : MfOk m) : (mfB m).length ≤ 4194304 := by
 have h1 := pcW_len (media := vCfgT) ho.1
 have h2 : (91 :: (commas (m.layers.map (pcW vLayT)) ++ [93])).length ≤ 900 * m.layers.length + 2 := by
  have := commas_map_len (f := pcW vLayT) (g := fun p : Pc => 0 * 0 + 900) (l := m.layers) (fun p hp => by
   have := pcW_len (media := vLayT) (ho.2 p hp)
   rw [show vLayT.length = 43 from rfl] at this
   omega)
  rw [sum_mul_add (f := fun _ : Pc => 0)] at this
  simp only [List.length_cons, List.length_append, List.length_nil]; omega
 have e := objB_len [(kCfg, pcW vCfgT m.cfg), (kLayers, 91 :: (commas (m.layers.map (pcW vLayT)) ++ [93])), (kMedia, quoted vMan), (kSchema, [50])]
 have a1 := member_len (kCfg, pcW vCfgT m.cfg)
 have a2 := member_len (kLayers, 91 :: (commas (m.layers.map (pcW vLayT)) ++ [93]))
 have a3 := member_len (kMedia, quoted vMan)
 have a4 := member_len (kSchema, [50])
 simp only [show kCfg.length = 6 from rfl, show kLayers.length = 6 from rfl, show kMedia.length = 9 from rfl, show kSchema.length = 13 from rfl, show (quoted vMan).length = 44 from rfl, List.length_cons, List.length_nil] at a1 a2 a3 a4 h2
 simp only [sizeT, List.map_cons, List.map_nil, List.sum_cons, List.sum_nil, List.length_cons, List.length_nil] at e
 rw [show vCfgT.length = 40 from rfl] at h1
 unfold mfB
 omega
theorem mf_same {m : Mf} (ho : MfOk m) : mfP m = mfR m := by
 unfold mfP mfR
 by_cases h : wM m = 0
 · rw [if_neg (by simp [h]), if_neg (by simp [h])]
   have hl := mfB_len (wM_zero h).1 ho
   unfold printed
   show (if wr 1 (mfT m) ≠ 0 then ([], wr 1 (mfT m)) else if 4194304 < (frm (mfT m)).length then ([], 5) else (frm (mfT m), 0)) = _
   rw [wr_mf, frm_mf, if_neg (by simp), if_neg (by omega)]
 · rw [if_pos (by simp [h]), if_pos (by simp [h])]
def exPc (x : V) : Option Pc := match Plain.digParse (atJ x kDig).1.text with
 | none => none
 | some d => some ⟨d, (atJ x kSize).1.num⟩
def exPcs : List V → Option (List Pc)
 | [] => some []
 | x :: r => match exPc x with
  | none => none
  | some p => match exPcs r with
   | none => none
   | some l => some (p :: l)
def exMf (v : V) : Option Mf := match exPc (atJ v kCfg) with
 | none => none
 | some c => match exPcs (toL (atJ v kLayers).2) with
  | none => none
  | some l => some ⟨c, l⟩
def progM (s : B) : Option Mf := match parse s with
 | .err _ _ => none
 | .ok h k _ => match exMf (h, k) with
  | none => none
  | some m => if mfP m = (s, 0) then some m else none
theorem ex_pc {p : Pc} (media : B) (h : p.dig.length = 32) : exPc (pcT media p) = some p := by
 have e1 : ∀ a b c : V, atJ (tO [(kDig, a), (kMedia, b), (kSize, c)]) kDig = a := fun _ _ _ => rfl
 have e2 : ∀ a b c : V, atJ (tO [(kDig, a), (kMedia, b), (kSize, c)]) kSize = c := fun _ _ _ => rfl
 unfold exPc pcT
 rw [e1, e2]
 simp only [tT, tN, Plain.digParse_digText _ h]
theorem ex_pcs {media : B} : ∀ {l : List Pc}, (∀ p ∈ l, p.dig.length = 32) → exPcs (l.map (pcT media)) = some l
 | [], _ => rfl
 | p :: r, h => by
  rw [List.map_cons, exPcs, ex_pc media (h p (by simp))]
  simp only
  rw [ex_pcs fun q hq => h q (by simp [hq])]
theorem nrm_pc (media : B) (p : Pc) : nrm (pcT media p) = pcT media p := by
 unfold pcT
 rw [nrm_O]; rfl
theorem nrm_mf (m : Mf) : nrm (mfT m) = tO [(kCfg, pcT vCfgT m.cfg), (kLayers, tL (m.layers.map (pcT vLayT))), (kMedia, tT vMan), (kSchema, tN 2)] := by
 have e2 : nrm (tL (m.layers.map (pcT vLayT))) = tL (m.layers.map (pcT vLayT)) := by
  rw [nrm_L, List.map_map]
  have e : m.layers.map (nrm ∘ pcT vLayT) = m.layers.map (pcT vLayT) := List.map_congr_left fun p _ => nrm_pc _ p
  rw [e]
 unfold mfT
 rw [nrm_O]
 show tO [(kCfg, nrm (pcT vCfgT m.cfg)), (kLayers, nrm (tL (m.layers.map (pcT vLayT)))), (kMedia, tT vMan), (kSchema, tN 2)] = _
 rw [e2, nrm_pc]
theorem ex_mf {m : Mf} (ho : MfOk m) : exMf (nrm (mfT m)) = some m := by
 have e1 : ∀ a b c d : V, atJ (tO [(kCfg, a), (kLayers, b), (kMedia, c), (kSchema, d)]) kCfg = a := fun _ _ _ _ => rfl
 have e2 : ∀ a b c d : V, atJ (tO [(kCfg, a), (kLayers, b), (kMedia, c), (kSchema, d)]) kLayers = b := fun _ _ _ _ => rfl
 rw [nrm_mf]
 unfold exMf
 rw [e1, e2, ex_pc _ ho.1.1]
 have : toL (tL (m.layers.map (pcT vLayT))).2 = m.layers.map (pcT vLayT) := toL_ofL _
 simp only [this, ex_pcs fun p hp => (ho.2 p hp).1]
theorem nok_pc {media : B} {p : Pc} (h : PcOk p) : Nok (pcT media p) := by
 refine nok_O fun q hq => ?_
 simp only [List.mem_cons, List.not_mem_nil, or_false] at hq
 rcases hq with rfl | rfl | rfl
 · exact nok_T _
 · exact nok_T _
 · exact ⟨h.2, trivial⟩
theorem nok_mf {m : Mf} (ho : MfOk m) : Nok (mfT m) := by
 refine nok_O fun q hq => ?_
 simp only [List.mem_cons, List.not_mem_nil, or_false] at hq
 rcases hq with rfl | rfl | rfl | rfl
 · exact ⟨by simp [NumOk, tN], trivial⟩
 · exact nok_T _
 · exact nok_pc ho.1
 · exact nok_L fun v hv => by obtain ⟨p, hp, rfl⟩ := List.mem_map.1 hv; exact nok_pc (ho.2 p hp)
theorem progM_ok {s r : B} {h : Hd} {k : F} {m : Mf} (hp : parse s = .ok h k r) (he : exMf (h, k) = some m) : progM s = if mfP m = (s, 0) then some m else none := by
 unfold progM
 rw [hp]
 simp only [he]
theorem progM_back {m : Mf} {s : B} (ho : MfOk m) (h : mfR m = (s, 0)) : progM s = some m := by
 have h' := h
 unfold mfR at h
 split at h
 · rename_i h0
   injection h with _ h2
   exact absurd h2 h0
 · rename_i h0
   injection h with h _
   have hw : wM m = 0 := Decidable.not_not.1 h0
   have hl := mfB_len (wM_zero hw).1 ho
   have h1 := parse_form (h := (mfT m).1) (k := (mfT m).2) (wr_mf m) (nok_mf ho).1 (nok_mf ho).2 (by show (frm (mfT m)).length ≤ _; rw [frm_mf]; exact hl)
   have h2 : form (mfT m).1 (mfT m).2 = s := by rw [← h]; exact frm_mf m
   rw [h2] at h1
   rw [progM_ok h1 (ex_mf ho), mf_same ho, if_pos h']
theorem digit_iff {c : UInt8} : digitB c = true ↔ 48 ≤ c.toNat ∧ c.toNat ≤ 57 := by unfold digitB; simp
end Js.Cf
end Go.Proofs.YtjohdaobhonioaaGreatDoor
namespace Go.Proofs.YtjohdaobhonioaaGreatDoor
namespace Js.Cf
theorem nok_toL : ∀ {f : F}, f.All NumOk → ∀ x ∈ toL f, Nok x
 | .nil, _, x, hx => by simp [toL] at hx
 | .cons h k r, hf, x, hx => by
  rcases List.mem_cons.1 hx with rfl | hx
  · exact ⟨hf.1, hf.2.1⟩
  · exact nok_toL hf.2.2 x hx
theorem mf_inj {m k : Mf} {s : B} (hm : MfOk m) (hk : MfOk k) (h1 : mfP m = (s, 0)) (h2 : mfP k = (s, 0)) : m = k := by
 rw [mf_same hm] at h1
 rw [mf_same hk] at h2
 have e1 := progM_back hm h1
 rw [progM_back hk h2] at e1
 injection e1 with e1; exact e1.symm
end Js.Cf
end Go.Proofs.YtjohdaobhonioaaGreatDoor
namespace Go.Proofs.YtjohdaobhonioaaGreatDoor
open Go.RowKit
namespace Js.Cf
def pastC (l : List (B × Bool)) : List Value := l.flatMap fun p => [.string ⟨p.1.toArray⟩, .bool p.2]
def digC (l : List B) : List Value := l.flatMap Lib.byteCells
def pcV (p : Pc) : List Value := Lib.byteCells p.dig ++ [.int .i64 p.size]
def pcC (l : List Pc) : List Value := l.flatMap pcV
theorem bytes_len (d : B) : (Lib.byteCells d).length = d.length := by simp [Lib.byteCells]
section flat
variable {α : Type}
theorem flat_get {f : α → List Value} {k : Nat} : ∀ {l : List α}, (∀ x ∈ l, (f x).length = k) → ∀ {i : Nat} {x : α}, l[i]? = some x → ∀ j, j < k → (l.flatMap f)[i * k + j]? = (f x)[j]?
 | [], _, i, x, hx, _, _ => by simp at hx
 | y :: r, h, 0, x, hx, j, hj => by
  simp only [List.getElem?_cons_zero, Option.some.injEq] at hx
  subst hx
  rw [List.flatMap_cons, Nat.zero_mul, Nat.zero_add, List.getElem?_append_left (by rw [h y (by simp)]; exact hj)]
 | y :: r, h, i + 1, x, hx, j, hj => by
  simp only [List.getElem?_cons_succ] at hx
  have := flat_get (l := r) (fun z hz => h z (by simp [hz])) hx j hj
  have hy := h y (by simp)
  rw [List.flatMap_cons, List.getElem?_append_right (by rw [hy, Nat.add_mul]; omega), hy, show (i + 1) * k + j - k = i * k + j by rw [Nat.add_mul]; omega, this]
theorem at_flat {w : World} {B' n k : Nat} {A : Option Addr} {f : α → List Value} {l : List α} (hf : ∀ x ∈ l, (f x).length = k) (h : Reads w B' k A n (l.flatMap f)) (hn : l.length = n) {i : Nat} {x : α} (hx : l[i]? = some x) :
  ∃ ad, A = some ad ∧ ad.block < B' ∧ ∀ j v, (f x)[j]? = some v → w.cell? ((ad.add (i * k)).add j) = some v := by
 have hi : i < l.length := by
  rcases Nat.lt_or_ge i l.length with h1 | h1
  · exact h1
  · rw [List.getElem?_eq_none h1] at hx; cases hx
 obtain ⟨ad, hA, hb, hc⟩ := h.2 (by omega)
 refine ⟨ad, hA, hb, fun j v hv => ?_⟩
 have hj : j < k := by
  rcases Nat.lt_or_ge j k with h1 | h1
  · exact h1
  · rw [List.getElem?_eq_none (by rw [hf x (List.mem_of_getElem? hx)]; exact h1)] at hv; cases hv
 rw [add_of_add]
 exact hc _ v (by rw [flat_get hf hx j hj]; exact hv)
end flat
section load
variable {P : Program} {ops : Array Oper}
theorem run_loadAt_any (w : World) (p : Addr) (ty : TypeId) (cs : List Value) (d : TypeDesc) (hc : ∀ j v, cs[j]? = some v → w.cell? (p.add j) = some v)
  (hu : P.underlying ty = some d) (hd : d.isRow = true) (hi : (P.info? ty).map (·.size) = some cs.length) : (Instr.loadAt ty (.pointer (some p))).run P w = .ok (.agg cs.toArray) w := by
 have hl : (loadCells p cs.length).run P w = .ok cs.toArray w := run_loadCells_list (P := P) w p cs hc
 have hv : (loadVar ty p).run P w = .ok (.agg cs.toArray) w := by
  cases hq : P.info? ty with
  | none => simp [hq] at hi
  | some i =>
   have hs : i.size = cs.length := by simpa [hq] using hi
   have hagg : (isAgg ty).run P w = .ok true w := by
    unfold isAgg
    rw [Sem.run_bind, run_underlying hu w]
    cases d <;> simp_all [TypeDesc.isRow]
   simp [loadVar, Sem.run_bind, hagg, sizeOf, typeInfo, hq, hs, hl]
 simp only [Instr.loadAt, Instr.sureAddr, Sem.run_bind, Sem.run_pure, Result.andThen_ok, hv]
theorem wp_load_any {op : Oper} {a : Act} {w : World} {K : Act → World → Prop} {Q : Exit → Act → World → Prop} (ty : TypeId) (x : Operand) (ho : op.op = .load ty x)
  (p : Addr) (hx : a.eval x = .pointer (some p)) (cs : List Value) (d : TypeDesc) (hc : ∀ j v, cs[j]? = some v → w.cell? (p.add j) = some v)
  (hu : P.underlying ty = some d) (hd : d.isRow = true) (hi : (P.info? ty).map (·.size) = some cs.length) (h : K (a.put op.dst (.agg cs.toArray)) w) : op.wp P a w K Q := by
 unfold Oper.wp execOp
 simp only [ho, hx, Sem.run_bind, Sem.run_pure, Result.andThen_ok, run_loadAt_any w p ty cs d hc hu hd hi]
 exact h
theorem wpList_load_any {rest : List Oper} {op : Oper} {a : Act} {w : World} {Q : Exit → Act → World → Prop} (hgd : op.guard = none) (ty : TypeId) (x : Operand) (ho : op.op = .load ty x)
  (p : Addr) (hx : a.eval x = .pointer (some p)) (cs : List Value) (d : TypeDesc) (hc : ∀ j v, cs[j]? = some v → w.cell? (p.add j) = some v)
  (hu : P.underlying ty = some d) (hd : d.isRow = true) (hi : (P.info? ty).map (·.size) = some cs.length) (h : wpList P ops Q rest (a.put op.dst (.agg cs.toArray)) w) : wpList P ops Q (op :: rest) a w :=
 wpList_plain hgd fun _ hK => wp_load_any ty x ho p hx cs d hc hu hd hi (hK _ _ h)
theorem yieldsIf_load_any {S : World → Prop} {op : Oper} {a : Act} (hw : Region.wanted op (yielded ops a.tmps) = true) (ty : TypeId) (x : Operand) (ho : op.op = .load ty x)
  (p : Addr) (hx : a.eval x = .pointer (some p)) (cs : List Value) (d : TypeDesc) (hS : ∀ w, S w → ∀ j v, cs[j]? = some v → w.cell? (p.add j) = some v)
  (hu : P.underlying ty = some d) (hd : d.isRow = true) (hi : (P.info? ty).map (·.size) = some cs.length) : YieldsIf P ops S op (.agg cs.toArray) a :=
 .inl ⟨hw, fun w hw' => by
  unfold execOp
  simp only [ho, hx, Sem.run_bind, Sem.run_pure, Result.andThen_ok, run_loadAt_any w p ty cs d (hS w hw') hu hd hi]⟩
end load
theorem past_len (x : B × Bool) : (([.string ⟨x.1.toArray⟩, .bool x.2] : List Value)).length = 2 := rfl
theorem pcV_len {p : Pc} (h : p.dig.length = 32) : (pcV p).length = 33 := by unfold pcV; rw [List.length_append, bytes_len, h]; rfl
def ImgR (w : World) (B' : Nat) (i : Img) (cs : Array Value) : Prop :=
 ∃ A1 c1 A2 c2 A3 c3 A4 c4 A5 c5 A6 c6 A7 c7, cs = #[.slice A1 i.cfg.env.length c1, .string ⟨i.cfg.dir.toArray⟩, .string ⟨i.cfg.user.toArray⟩, .slice A2 i.cfg.ports.length c2, .slice A3 i.cfg.labels.length c3,
   .slice A4 i.cfg.cmd.length c4, .slice A5 i.cfg.entry.length c5, .slice A6 i.past.length c6, .slice A7 i.diffs.length c7] ∧
  Reads w B' 2 A1 i.cfg.env.length (px i.cfg.env) ∧ Reads w B' 1 A2 i.cfg.ports.length (tx i.cfg.ports) ∧ Reads w B' 2 A3 i.cfg.labels.length (px i.cfg.labels) ∧ Reads w B' 1 A4 i.cfg.cmd.length (tx i.cfg.cmd) ∧
  Reads w B' 1 A5 i.cfg.entry.length (tx i.cfg.entry) ∧ Reads w B' 2 A6 i.past.length (pastC i.past) ∧ Reads w B' 32 A7 i.diffs.length (digC i.diffs) ∧ ∀ d ∈ i.diffs, d.length = 32
end Js.Cf
end Go.Proofs.YtjohdaobhonioaaGreatDoor
namespace Go.Proofs.YtjohdaobhonioaaGreatDoor
open Go.RowKit
namespace Js.Cf
structure KJ (w : World) (B : Nat) (Q : Nat → Prop) (v1 : Value) (ks : List (List UInt8)) (v2 : Value) (f : F) : Prop where
 keys : w.ownsRow B 9 1 v1 ks.length (tx ks)
 items : ∃ (S : Nat → Prop) (vs : List Value), w.ownsRow B 54 5 v2 f.len vs ∧ TR encJ w S f vs ∧ ∀ b, S b → Q b ∧ b < w.heap.size ∧ v1.ownBlock ≠ some b ∧ v2.ownBlock ≠ some b
 size : B ≤ w.heap.size
theorem KJ.nil (w : World) (B : Nat) (Q : Nat → Prop) (hB : B ≤ w.heap.size) : KJ w B Q (.slice none 0 0) [] (.slice none 0 0) .nil :=
 ⟨World.ownsRow_nil _ _ _ _, ⟨fun _ => False, [], World.ownsRow_nil _ _ _ _, rfl, fun _ h => h.elim⟩, hB⟩
section
variable {w w' : World} {B : Nat} {Q : Nat → Prop} {v1 v2 : Value} {ks : List (List UInt8)} {f : F}
theorem KJ.ne (h : KJ w B Q v1 ks v2 f) {b : Nat} (hb : v1.ownBlock = some b) : v2.ownBlock ≠ some b := by
 obtain ⟨S, vs, ho, _⟩ := h.items
 exact own_own_ne h.keys ho (by decide) hb
theorem KJ.kept (h : KJ w B Q v1 ks v2 f) (hk : ∀ b, (B ≤ b ∨ Q b) → b < w.heap.size → w'.heap[b]? = w.heap[b]?) (hs : w.heap.size ≤ w'.heap.size) : KJ w' B Q v1 ks v2 f := by
 obtain ⟨S, vs, ho, hp, hS⟩ := h.items
 refine ⟨own_at h.keys fun b hb => hk b (.inl (own_lt h.keys hb).1) (own_lt h.keys hb).2, ⟨S, vs, own_at ho fun b hb => hk b (.inl (own_lt ho hb).1) (own_lt ho hb).2, hp.kept fun p hp => World.cell?_of_block (hk _ (.inr (hS _ hp).1) (hS _ hp).2.1), fun b hb => ⟨(hS b hb).1, by have := (hS b hb).2.1; omega, (hS b hb).2.2⟩⟩, Nat.le_trans h.size hs⟩
theorem KJ.form1 (h : KJ w B Q v1 ks v2 f) : ∃ A c, v1 = .slice A ks.length c := by
 obtain ⟨A, c, h, _⟩ := own_readsN h.keys
 exact ⟨A, c, h⟩
theorem KJ.form2 (h : KJ w B Q v1 ks v2 f) : ∃ A c, v2 = .slice A f.len c := by
 obtain ⟨S, vs, ho, _⟩ := h.items
 obtain ⟨A, c, h, _⟩ := own_readsN ho
 exact ⟨A, c, h⟩
theorem KJ.key (h : KJ w B Q v1 ks v2 f) {v1' : Value} {t : List UInt8} (ho' : w'.ownsRow B 9 1 v1' (ks.length + 1) (tx ks ++ [.string ⟨t.toArray⟩])) (hg : w.grownBy w' v1.ownBlock) (hl : v1'.ownBlock = v1.ownBlock ∨ v1'.ownBlock = some w.heap.size) : KJ w' B Q v1' (ks ++ [t]) v2 f := by
 obtain ⟨S, vs, ho, hp, hS⟩ := h.items
 refine ⟨by rw [tx_append, List.length_append]; exact ho', ⟨S, vs, own_at ho fun b hb => hg.block b (own_lt ho hb).2 (fun e => h.ne e.symm hb), hp.kept fun p hp => World.cell?_of_block (hg.block _ (hS _ hp).2.1 (fun e => (hS _ hp).2.2.1 e.symm)), fun b hb => ?_⟩, Nat.le_trans h.size hg.size⟩
 obtain ⟨a1, a2, a3, a4⟩ := hS b hb
 refine ⟨a1, by have := hg.size; omega, fun e => ?_, a4⟩
 rcases hl with hl | hl
 · exact a3 (hl.symm.trans e)
 · rw [hl] at e; cases e; omega
theorem KJ.item {v2' : Value} {S2 : Nat → Prop} {h0 : Hd} {k : F} {S : Nat → Prop} {vs us : List Value} (h : KJ w B Q v1 ks v2 f) (hp : TR encJ w S f vs) (hS : ∀ b, S b → Q b ∧ b < w.heap.size ∧ v1.ownBlock ≠ some b ∧ v2.ownBlock ≠ some b) (hu : TR encJ w S2 (.cons h0 k .nil) us) (hS2 : ∀ b, S2 b → Q b ∧ b < w.heap.size ∧ v1.ownBlock ≠ some b ∧ v2.ownBlock ≠ some b)
   (ho' : w'.ownsRow B 54 5 v2' (f.len + 1) (vs ++ us)) (hg : w.grownBy w' v2.ownBlock) (hl : v2'.ownBlock = v2.ownBlock ∨ v2'.ownBlock = some w.heap.size) : KJ w' B Q v1 ks v2' (f.app (.cons h0 k .nil)) := by
 have hU : ∀ b, (S b ∨ S2 b) → Q b ∧ b < w.heap.size ∧ v1.ownBlock ≠ some b ∧ v2.ownBlock ≠ some b := fun b hb => hb.elim (hS b) (hS2 b)
 refine ⟨own_at h.keys fun b hb => hg.block b (own_lt h.keys hb).2 (fun e => h.ne hb e.symm), ⟨fun b => S b ∨ S2 b, vs ++ us, by rw [F.len_app]; exact ho', ((hp.more fun b h => .inl h).app (hu.more fun b h => .inr h)).kept fun p hp => World.cell?_of_block (hg.block _ (hU _ hp).2.1 (fun e => (hU _ hp).2.2.2 e.symm)), fun b hb => ?_⟩, Nat.le_trans h.size hg.size⟩
 obtain ⟨a1, a2, a3, a4⟩ := hU b hb
 refine ⟨a1, by have := hg.size; omega, a3, fun e => ?_⟩
 rcases hl with hl | hl
 · exact a4 (hl.symm.trans e)
 · rw [hl] at e; cases e; omega
end
def VT (w : World) (B' : Nat) (v : V) (c : Array Value) : Prop := ∃ iv kv S, c = (jcells v.1 iv kv).toArray ∧ TV encJ w S v.1 v.2 (jcells v.1 iv kv) ∧ ∀ b, S b → B' ≤ b ∧ b < w.heap.size
theorem VT.kept {w w' : World} {B' : Nat} {v : V} {c : Array Value} (h : VT w B' v c) (hk : ∀ b, B' ≤ b → b < w.heap.size → w'.heap[b]? = w.heap[b]?) (hs : w.heap.size ≤ w'.heap.size) : VT w' B' v c := by
 obtain ⟨iv, kv, S, e, ht, hS⟩ := h
 exact ⟨iv, kv, S, e, ht.kept fun p hp => World.cell?_of_block (hk _ (hS _ hp).1 (hS _ hp).2), fun b hb => ⟨(hS b hb).1, by have := (hS b hb).2; omega⟩⟩
theorem VT.below {w w' : World} {B' : Nat} {v : V} {c : Array Value} (h : VT w B' v c) (hb : Below w.heap.size w w') : VT w' B' v c := h.kept (fun b _ h2 => hb.block b h2) hb.size
theorem VT.less {w : World} {B1 B2 : Nat} {v : V} {c : Array Value} (h : VT w B1 v c) (hB : B2 ≤ B1) : VT w B2 v c := by
 obtain ⟨iv, kv, S, e, ht, hS⟩ := h
 exact ⟨iv, kv, S, e, ht, fun b hb => ⟨by have := (hS b hb).1; omega, (hS b hb).2⟩⟩
theorem VT.text (w : World) (B' : Nat) (s : B) : VT w B' (tT s) #[.int .i64 4, .int .i64 0, .string ⟨s.toArray⟩, .slice none 0 0, .slice none 0 0] :=
 ⟨.slice none 0 0, .slice none 0 0, fun _ => False, rfl, ⟨none, 0, none, 0, [], rfl, by simp [tT, F.len], ⟨by simp [tT], fun h => by cases h⟩, RdS.none_, rfl, RdS.none_⟩, fun _ h => h.elim⟩
theorem VT.obj {w : World} {B' B0 : Nat} {Q : Nat → Prop} {l : List (B × V)} {iv kv : Value} (hB : B0 ≤ B') (hQ : ∀ b, Q b → B0 ≤ b) (h : KJ w B' Q kv (l.map Prod.fst) iv (ofL (l.map Prod.snd))) (hl : l.length ≤ 4398046511104) : VT w B0 (tO l) #[.int .i64 6, .int .i64 0, .string ⟨#[]⟩, iv, kv] := by
 obtain ⟨S, vs, ho, hp, hS⟩ := h.items
 have hk := h.keys
 obtain ⟨A1, c1, e1, r1⟩ := RdS.of_own hk
 obtain ⟨A2, c2, e2, r2⟩ := RdS.of_own ho
 refine ⟨iv, kv, fun b => S b ∨ (kv.ownBlock = some b ∨ iv.ownBlock = some b), rfl, ⟨A2, c2, A1, c1, vs, ?_, ?_, ⟨?_, fun h => by cases h⟩, r2.more fun b hb => .inr (.inr hb), hp.more fun b hb => .inl hb, r1.more fun b hb => .inr (.inl hb)⟩, fun b hb => ?_⟩
 · rw [e1, e2]; rfl
 · show (ofL (l.map Prod.snd)).len ≤ _
   rw [ofL_len, List.length_map]; exact hl
 · show (l.map Prod.fst).length ≤ _
   rw [List.length_map]; exact hl
 · rcases hb with hb | hb | hb
   · exact ⟨hQ b (hS b hb).1, (hS b hb).2.1⟩
   · exact ⟨Nat.le_trans hB (own_lt hk hb).1, (own_lt hk hb).2⟩
   · exact ⟨Nat.le_trans hB (own_lt ho hb).1, (own_lt ho hb).2⟩
theorem VT.list {w : World} {B' : Nat} {l : List V} {iv : Value} {S : Nat → Prop} {vs : List Value} (ho : w.ownsRow B' 54 5 iv l.length vs) (hp : TR encJ w S (ofL l) vs) (hS : ∀ b, S b → B' ≤ b ∧ b < w.heap.size) (hl : l.length ≤ 4398046511104) :
   VT w B' (tL l) #[.int .i64 5, .int .i64 0, .string ⟨#[]⟩, iv, .slice none 0 0] := by
 obtain ⟨A2, c2, e2, r2⟩ := RdS.of_own ho
 have el : (ofL l).len = l.length := ofL_len l
 refine ⟨iv, .slice none 0 0, fun b => S b ∨ iv.ownBlock = some b, rfl, ⟨A2, c2, none, 0, vs, ?_, ?_, ⟨?_, fun h => by cases h⟩, ?_, hp.more fun b hb => .inl hb, RdS.none_⟩, fun b hb => ?_⟩
 · rw [e2]
   show jcells (plainH 5) _ _ = jcells (plainH 5) (.slice A2 (ofL l).len c2) _
   rw [el]; rfl
 · show (ofL l).len ≤ _
   rw [el]; exact hl
 · exact Nat.zero_le _
 · show RdS w _ encJ.sz A2 (ofL l).len vs
   rw [el]; exact r2.more fun b hb => .inr hb
 · rcases hb with hb | hb
   · exact hS b hb
   · exact own_lt ho hb
theorem ofL_snoc (l : List V) (v : V) : ofL (l ++ [v]) = (ofL l).app (.cons v.1 v.2 .nil) := by
 induction l with
 | nil => rfl
 | cons p r ih => simp only [List.cons_append, ofL, F.app, ih]
theorem own_tail {base n size cap g : Nat} {e : TypeId} : ∀ (new : List Value) (w : World) (xs old : List Value), w.ownsRow base e size (.slice (some ⟨g, 0, none⟩) n cap) n (xs ++ old) → new.length = old.length →
  (w.setCells g xs.length new).ownsRow base e size (.slice (some ⟨g, 0, none⟩) n cap) n (xs ++ new) ∧ w.grownBy (w.setCells g xs.length new) (some g)
 | [], w, xs, [], h, _ => ⟨h, ⟨rfl, rfl, rfl, Nat.le_refl _, fun _ _ _ => rfl⟩⟩
 | [], w, xs, o :: r, h, hl => by simp at hl
 | v :: r, w, xs, [], h, hl => by simp at hl
 | v :: r, w, xs, o :: s, h, hl => by
  have h1 := h.stored xs.length v
  rw [show (xs ++ o :: s).set xs.length v = (xs ++ [v]) ++ s by simp] at h1
  have h2 := own_tail r _ (xs ++ [v]) s h1.1 (by simpa using hl)
  rw [show (xs ++ [v]).length = xs.length + 1 by simp, show (xs ++ [v]) ++ r = xs ++ v :: r by simp] at h2
  have g1 := h1.2
  have g2 := h2.2
  refine ⟨h2.1, ⟨g2.os.trans g1.os, g2.tape.trans g1.tape, g2.output.trans g1.output, Nat.le_trans g1.size g2.size, fun k hk hx => (g2.block k (Nat.lt_of_lt_of_le hk g1.size) hx).trans (g1.block k hk hx)⟩⟩
theorem own_there {w : World} {base n size cap g : Nat} {e : TypeId} {xs old : List Value} (h : w.ownsRow base e size (.slice (some ⟨g, 0, none⟩) n cap) n (xs ++ old)) : w.there g xs.length old.length := fun j hj => by
 refine ⟨?_, h.frozenAt _⟩
 have hc := h.cells (g := g) rfl (xs.length + j) (old[j]) (by rw [List.getElem?_append_right (by omega), Nat.add_sub_cancel_left]; exact List.getElem?_eq_getElem hj)
 have hadd : (⟨g, 0, none⟩ : Addr).add (xs.length + j) = ⟨g, xs.length + j, none⟩ := by rw [Addr.add_mid]; simp
 rw [hadd] at hc
 rw [hc]; rfl
end Js.Cf
end Go.Proofs.YtjohdaobhonioaaGreatDoor
