/-
  The walks of the document's answer for layer 4, its small parts: Quoted.
  The walk of the document's 'twice' (strataref04) at this seat: is a text there twice?
  The walks of the document's 'within', 'char' and 'Wrong' (strataref04) at this seat: the first wrong byte of a text.
  The walks of the document's char and Wrong (strataref04) at this seat. (Printed by a program of the work.)
  The walk of the document's Wrong (strataref04) at this seat: the first wrong byte of a text.
  The walk of the document's Decimal (strataref04) at this seat.
  The walk of the document's own (strataref04) at this seat: what is wrong with a value by itself.
  The walk of the document's Wrongs (strataref04) at this seat: the first thing that is wrong with a value.
  The plain law of the document's rising (strataref04): places of the keys, put in order one by one, are the order of the sorted members.
  The walk of the document's rising (strataref04) at this seat.
  The walk of the document's form (strataref04) at this seat: what is written of a value, behind what is there.
  The walk of the document's Print (strataref04) at this seat.
-/
import Derived.Test.YtlfeddgpfaigkaaGreatDoorJsQu
import Derived.Test.YtlfeddgpfaigkaaGreatDoorJsWg
import Derived.Test.YtlfeddgpfaigkaaGreatDoorByt
import Derived.Test.YtlfeddgpfaigkaaGreatDoorSmt
import Derived.IntWalk
import Derived.Lib.ItoaLen
import Derived.Test.YtlfeddgpfaigkaaGreatDoorJsWp
import Derived.Lib.AppendStr
namespace Go.Proofs.YtlfeddgpfaigkaaGreatDoor
open Go.RowKit
namespace Js
theorem infoByteQ : (Tryz.prog.info? 5).map (fun i => (i.zero, i.size, i.bytes)) = some (some (.int .u8 0), 1, 1) := by kernel_rfl
/-- Bytes of the call's own. -/
def OwnY (w : World) (B : Nat) (v : Value) (l : List UInt8) : Prop := w.ownsRow B 5 1 v l.length (Lib.byteCells l)
theorem ownY_form {w : World} {B : Nat} {v : Value} {l : List UInt8} (h : OwnY w B v l) : ∃ A c, v = .slice A l.length c := by obtain ⟨A, c, h, _⟩ := own_readsN h; exact ⟨A, c, h⟩
theorem ownY_nil (w : World) (B : Nat) : OwnY w B (.slice none 0 0) [] := World.ownsRow_nil _ _ _ _
theorem ownY_reads {w : World} {B : Nat} {v : Value} {l : List UInt8} (h : OwnY w B v l) : ∃ A c, v = .slice A l.length c ∧ Reads w w.heap.size 1 A l.length (Lib.byteCells l) := own_readsN h
theorem ownY_new (w : World) (B : Nat) (c : UInt8) (hB : B ≤ w.heap.size) : OwnY (w.alloc (.cells #[.int .u8 (c.toNat : Int)] 5)) B (.slice (some ⟨w.heap.size, 0, none⟩) 1 1) [c] :=
  ⟨rfl, .inr ⟨w.heap.size, 1, _, rfl, hB, heap_alloc_new w _, by simp, by simp [maxLen], rfl, by simp [Lib.byteCells]⟩⟩
section
variable {P : Program}
/-- A byte more: one that was laid by itself. -/
theorem wpList_byte {ops : Array Oper} {rest : List Oper} {o : Oper} {a : Act} {Q : Exit → Act → World → Prop} (w : World) (hgd : o.guard = none) (s x : Operand) (t e : TypeId) (i : TypeInfo)
    (ho : o.op = .call { callee := .builtin .append, args := #[s, x], argTypes := #[t, t] })
    (B : Nat) (ht : P.underlying t = some (.slice e)) (hi : P.info? e = some i) (hz : i.zero = some (.int .u8 0)) (hsize : i.size = 1) (hby : i.bytes = 1)
    (v : Value) (l : List UInt8) (c : UInt8) {z : Int} (hown : w.ownsRow B e 1 v l.length (Lib.byteCells l)) (hzc : z = (c.toNat : Int)) (hs : a.eval s = v) (hB : B ≤ w.heap.size) (hx : a.eval x = .slice (some ⟨w.heap.size, 0, none⟩) 1 1) (hl : l.length ≤ 140737488355327)
    (h : ∀ v' w' m, m = l ++ [c] → m.length ≤ l.length + 1 → w'.ownsRow B e 1 v' m.length (Lib.byteCells m) → (∃ A k, v' = .slice A m.length k) → Below B w w' ∧ B ≤ w'.heap.size → wpList P ops Q rest (a.put o.dst v') w') :
    wpList P ops Q (o :: rest) a (w.alloc (.cells #[.int .u8 z] e)) := by
  subst hzc
  refine wpList_append_any _ hgd s x t ho B e i (.int .u8 0) 1 1 ht hi hz hsize hby rfl (by decide) v l.length (Lib.byteCells l) hs (World.ownsRow.alloc hown _) _ _ 1 1 [.int .u8 (c.toNat : Int)] hx (Reads.of_block (n := 1) (heap_alloc_new w _) rfl) (by intro u hu; obtain rfl := List.mem_singleton.1 hu; rfl) (by unfold maxLen; omega) (by omega) (by simp; omega) ?_
  intro v' w' h1 h2 _
  have h3 : w'.ownsRow B e 1 v' (l ++ [c]).length (Lib.byteCells (l ++ [c])) := by
    rw [List.length_append, byteCells_app]
    exact h1
  obtain ⟨A', k', e', _⟩ := own_readsN h3
  refine h v' w' _ rfl (by rw [List.length_append]; exact Nat.le_refl _) h3 ⟨A', k', e'⟩ ?_
  · have hb : Below B w w' := ((Below.refl B w).alloc hB _).grown h2 (by simp; omega) (fun j hj => (World.ownsRow.lt hown j hj).1)
    exact ⟨hb, by have := hb.size; omega⟩
end
set_option maxHeartbeats 8000000 in
set_option maxRecDepth 100000 in
theorem quotedR_any (s : List UInt8) (w : World) (hs : s.length ≤ 4398046511104) :
    Calls Tryz.prog 86 #[.string ⟨s.toArray⟩] w fun x w' => x = .returned (.string ⟨(quoted s).toArray⟩) ∧ Below w.heap.size w w' := by
  obtain ⟨i0, hi0, hz0, hz1, hz2⟩ := info_parts infoByteQ
  obtain ⟨B, hB⟩ : ∃ B, B = w.heap.size := ⟨_, rfl⟩
  have HBW : Hid (B ≤ w.heap.size) := Lib.hid (by omega)
  have HO0 := Lib.hid (ownY_new w B 34 (by omega))
  have HB0 : Hid (Below B w (w.alloc (.cells #[.int .u8 34] 5))) := Lib.hid ((Below.refl _ _).alloc (by omega) _)
  rw [← hB]
  go_enter Tryz.func86, Tryz.ntmps86
  go_wp2_with fail
  go_loopw [4, 5] (fun v i wr => ∃ k : Nat, k ≤ s.length ∧ i = .int .i64 k ∧ Hid (OwnY wr B v (34 :: (s.take k).flatMap qc)) ∧ Hid (Below B w wr)) (fun _ i _ => s.length - (intOf i).toNat)
  case atStart => exact ⟨0, by omega, rfl, HO0, HB0⟩
  case round =>
    clear HO0 HB0
    obtain ⟨k, hk, rfl, HO, HK⟩ := hrel
    obtain ⟨A, cc, hv⟩ := ownY_form HO.out
    subst hv
    have HBK : Hid (B ≤ wr.heap.size) := Lib.hid (by have := HK.out.size; have := HBW.out; omega)
    by_cases hlt : k < s.length
    · have hidx := run_index_list Tryz.underlying9 s k hlt
      have HX : Hid (s.take (k + 1) = s.take k ++ [s.getD k 0]) := Lib.hid (by rw [List.take_succ_eq_append_getElem hlt]; simp [List.getD, List.getElem?_eq_getElem hlt])
      have hfl : (34 :: (s.take k).flatMap qc).length ≤ 6 * k + 1 := by
        have := flat_len (s.take k)
        rw [List.length_take] at this
        rw [List.length_cons]
        omega
      generalize s.getD k 0 = c at hidx HX
      have HE : Hid (∀ wx v, OwnY wx B v ((34 :: (s.take k).flatMap qc) ++ qc c) → OwnY wx B v (34 :: (s.take (k + 1)).flatMap qc)) := Lib.hid (fun wx v h => by
        rw [HX.out, List.flatMap_append]
        simpa using h)
      generalize 34 :: (s.take k).flatMap qc = m at HO hfl HE
      by_cases h34 : c = 34
      · have q1 : ((c.toNat : Int) == 34) = true := b8t h34
        have HQ : Hid (qc c = [92, c]) := Lib.hid (by unfold qc; rw [if_pos (.inl h34)])
        clear h34
        go_upto_region 10 with (at_builtin; go_loud (refine wpList_byte wr rfl _ _ 74 5 i0 rfl B Tryz.underlying74 hi0 hz0 hz1 hz2 _ m (92 : UInt8) HO.out rfl rfl HBK.out rfl (by omega) ?_; rintro _ w2 m2 hm hl2 h1 ⟨A2, c2, rfl⟩ h2; have HK2 : Hid (Below B w w2) := Lib.hid (HK.out.trans h2.1); have HBK2 := Lib.hid h2.2; have HO2 := Lib.hid h1; have HM2 := Lib.hid hm; clear h1 h2 hm))
        go_wp2_with (at_builtin; go_loud (refine wpList_byte w2 rfl _ _ 74 5 i0 rfl B Tryz.underlying74 hi0 hz0 hz1 hz2 _ m2 (c) HO2.out rfl rfl HBK2.out rfl (by omega) ?_; rintro _ w3 m3 hm hl3 h1 ⟨A3, c3, rfl⟩ h2; have HK3 : Hid (Below B w w3) := Lib.hid (HK2.out.trans h2.1); have HBK3 := Lib.hid h2.2; have HO3 := Lib.hid h1; have HM3 := Lib.hid hm; clear h1 h2 hm))
        have HF := Lib.hid (HE.out w3 _ (by rw [HQ.out, show m ++ [92, c] = m3 from by rw [HM3.out, HM2.out]; (try simp)]; exact HO3.out))
        go_roundw
        case rel => exact ⟨k + 1, by omega, by go_num, HF, HK3⟩
        case measure => simp [intOf]; omega
      · have q1 : ((c.toNat : Int) == 34) = false := b8f h34
        by_cases h92 : c = 92
        · have q2 : ((c.toNat : Int) == 92) = true := b8t h92
          have HQ : Hid (qc c = [92, c]) := Lib.hid (by unfold qc; rw [if_pos (.inr h92)])
          clear h34 h92
          go_upto_region 10 with (at_builtin; go_loud (refine wpList_byte wr rfl _ _ 74 5 i0 rfl B Tryz.underlying74 hi0 hz0 hz1 hz2 _ m (92 : UInt8) HO.out rfl rfl HBK.out rfl (by omega) ?_; rintro _ w2 m2 hm hl2 h1 ⟨A2, c2, rfl⟩ h2; have HK2 : Hid (Below B w w2) := Lib.hid (HK.out.trans h2.1); have HBK2 := Lib.hid h2.2; have HO2 := Lib.hid h1; have HM2 := Lib.hid hm; clear h1 h2 hm))
          go_wp2_with (at_builtin; go_loud (refine wpList_byte w2 rfl _ _ 74 5 i0 rfl B Tryz.underlying74 hi0 hz0 hz1 hz2 _ m2 (c) HO2.out rfl rfl HBK2.out rfl (by omega) ?_; rintro _ w3 m3 hm hl3 h1 ⟨A3, c3, rfl⟩ h2; have HK3 : Hid (Below B w w3) := Lib.hid (HK2.out.trans h2.1); have HBK3 := Lib.hid h2.2; have HO3 := Lib.hid h1; have HM3 := Lib.hid hm; clear h1 h2 hm))
          have HF := Lib.hid (HE.out w3 _ (by rw [HQ.out, show m ++ [92, c] = m3 from by rw [HM3.out, HM2.out]; (try simp)]; exact HO3.out))
          go_roundw
          case rel => exact ⟨k + 1, by omega, by go_num, HF, HK3⟩
          case measure => simp [intOf]; omega
        · have q2 : ((c.toNat : Int) == 92) = false := b8f h92
          by_cases h32 : c.toNat < 32
          · have q3 : ((c.toNat : Int) < 32) = True := eq_true (by omega)
            have HQ : Hid (qc c = [92, 117, 48, 48, hexc (c.toNat / 16), hexc (c.toNat % 16)]) := Lib.hid (by unfold qc; rw [if_neg (by rintro (h | h); exact h34 h; exact h92 h), if_pos h32])
            have hx1 : c.toNat / 16 < 16 := by omega
            have hx2 : c.toNat % 16 < 16 := by omega
            have hx3 : c.toNat < 256 := by omega
            have hd1 := dig_at _ hx1
            have hd2 := dig_at _ hx2
            clear h34 h92
            go_upto_region 13 with (at_builtin; go_loud (refine wpList_byte wr rfl _ _ 74 5 i0 rfl B Tryz.underlying74 hi0 hz0 hz1 hz2 _ m (92 : UInt8) HO.out rfl rfl HBK.out rfl (by omega) ?_; rintro _ w2 m2 hm hl2 h1 ⟨A2, c2, rfl⟩ h2; have HK2 : Hid (Below B w w2) := Lib.hid (HK.out.trans h2.1); have HBK2 := Lib.hid h2.2; have HO2 := Lib.hid h1; have HM2 := Lib.hid hm; clear h1 h2 hm))
            go_upto_region 14 with (at_builtin; go_loud (refine wpList_byte w2 rfl _ _ 74 5 i0 rfl B Tryz.underlying74 hi0 hz0 hz1 hz2 _ m2 (117 : UInt8) HO2.out rfl rfl HBK2.out rfl (by omega) ?_; rintro _ w3 m3 hm hl3 h1 ⟨A3, c3, rfl⟩ h2; have HK3 : Hid (Below B w w3) := Lib.hid (HK2.out.trans h2.1); have HBK3 := Lib.hid h2.2; have HO3 := Lib.hid h1; have HM3 := Lib.hid hm; clear h1 h2 hm))
            go_upto_region 15 with (at_builtin; go_loud (refine wpList_byte w3 rfl _ _ 74 5 i0 rfl B Tryz.underlying74 hi0 hz0 hz1 hz2 _ m3 (48 : UInt8) HO3.out rfl rfl HBK3.out rfl (by omega) ?_; rintro _ w4 m4 hm hl4 h1 ⟨A4, c4, rfl⟩ h2; have HK4 : Hid (Below B w w4) := Lib.hid (HK3.out.trans h2.1); have HBK4 := Lib.hid h2.2; have HO4 := Lib.hid h1; have HM4 := Lib.hid hm; clear h1 h2 hm))
            go_upto_region 16 with (at_builtin; go_loud (refine wpList_byte w4 rfl _ _ 74 5 i0 rfl B Tryz.underlying74 hi0 hz0 hz1 hz2 _ m4 (48 : UInt8) HO4.out rfl rfl HBK4.out rfl (by omega) ?_; rintro _ w5 m5 hm hl5 h1 ⟨A5, c5, rfl⟩ h2; have HK5 : Hid (Below B w w5) := Lib.hid (HK4.out.trans h2.1); have HBK5 := Lib.hid h2.2; have HO5 := Lib.hid h1; have HM5 := Lib.hid hm; clear h1 h2 hm))
            go_upto_region 17 with (at_builtin; go_loud (refine wpList_byte w5 rfl _ _ 74 5 i0 rfl B Tryz.underlying74 hi0 hz0 hz1 hz2 _ m5 (hexc (c.toNat / 16)) HO5.out rfl rfl HBK5.out rfl (by omega) ?_; rintro _ w6 m6 hm hl6 h1 ⟨A6, c6, rfl⟩ h2; have HK6 : Hid (Below B w w6) := Lib.hid (HK5.out.trans h2.1); have HBK6 := Lib.hid h2.2; have HO6 := Lib.hid h1; have HM6 := Lib.hid hm; clear h1 h2 hm))
            go_wp2_with (at_builtin; go_loud (refine wpList_byte w6 rfl _ _ 74 5 i0 rfl B Tryz.underlying74 hi0 hz0 hz1 hz2 _ m6 (hexc (c.toNat % 16)) HO6.out rfl rfl HBK6.out rfl (by omega) ?_; rintro _ w7 m7 hm hl7 h1 ⟨A7, c7, rfl⟩ h2; have HK7 : Hid (Below B w w7) := Lib.hid (HK6.out.trans h2.1); have HBK7 := Lib.hid h2.2; have HO7 := Lib.hid h1; have HM7 := Lib.hid hm; clear h1 h2 hm))
            have HF := Lib.hid (HE.out w7 _ (by rw [HQ.out, show m ++ [92, 117, 48, 48, hexc (c.toNat / 16), hexc (c.toNat % 16)] = m7 from by rw [HM7.out, HM6.out, HM5.out, HM4.out, HM3.out, HM2.out]; (try simp)]; exact HO7.out))
            go_roundw
            case rel => exact ⟨k + 1, by omega, by go_num, HF, HK7⟩
            case measure => simp [intOf]; omega
          · have q3 : ((c.toNat : Int) < 32) = False := eq_false (by omega)
            have HQ : Hid (qc c = [c]) := Lib.hid (by unfold qc; rw [if_neg (by rintro (h | h); exact h34 h; exact h92 h), if_neg h32])
            clear h34 h92 h32
            go_wp2_with (at_builtin; go_loud (refine wpList_byte wr rfl _ _ 74 5 i0 rfl B Tryz.underlying74 hi0 hz0 hz1 hz2 _ m (c) HO.out rfl rfl HBK.out rfl (by omega) ?_; rintro _ w2 m2 hm hl2 h1 ⟨A2, c2, rfl⟩ h2; have HK2 : Hid (Below B w w2) := Lib.hid (HK.out.trans h2.1); have HBK2 := Lib.hid h2.2; have HO2 := Lib.hid h1; have HM2 := Lib.hid hm; clear h1 h2 hm))
            have HF := Lib.hid (HE.out w2 _ (by rw [HQ.out, show m ++ [c] = m2 from by rw [HM2.out]; (try simp)]; exact HO2.out))
            go_roundw
            case rel => exact ⟨k + 1, by omega, by go_num, HF, HK2⟩
            case measure => simp [intOf]; omega
    · have hkL : k = s.length := by omega
      subst hkL
      have hfl : (34 :: (s.take s.length).flatMap qc).length ≤ 6 * s.length + 1 := by
        have := flat_len (s.take s.length)
        rw [List.length_take] at this
        rw [List.length_cons]
        omega
      have HQ : Hid (quoted s = (34 :: (s.take s.length).flatMap qc) ++ [34]) := Lib.hid (by rw [List.take_length]; rfl)
      generalize 34 :: (s.take s.length).flatMap qc = m at HO hfl HQ ⊢
      go_upto_region 19 with (at_builtin; go_loud (refine wpList_byte wr rfl _ _ 74 5 i0 rfl B Tryz.underlying74 hi0 hz0 hz1 hz2 _ m (34 : UInt8) HO.out rfl rfl HBK.out rfl (by omega) ?_; rintro _ w2 m2 hm hl2 h1 ⟨A2, c2, rfl⟩ h2; have HK2 : Hid (Below B w w2) := Lib.hid (HK.out.trans h2.1); have HBK2 := Lib.hid h2.2; have HO2 := Lib.hid h1; have HM2 := Lib.hid hm; clear h1 h2 hm))
      obtain ⟨A5, c5, hv5, hr5⟩ := ownY_reads HO2.out
      cases hv5
      have hcv := run_convert_reads (P := Tryz.prog) Tryz.underlying74 Tryz.underlying5 Tryz.underlying9 c2 hr5
      clear hr5
      go_wp2_with fail
      go_ret
      exact ⟨by rw [HQ.out, ← HM2.out]; rfl, HK2.out⟩
end Js
end Go.Proofs.YtlfeddgpfaigkaaGreatDoor
namespace Go.Proofs.YtlfeddgpfaigkaaGreatDoor
open Go.RowKit
namespace Js
/-- No text twice: none stands behind itself. -/
theorem dupL_get : ∀ (l : List (List UInt8)), dupL l = true ↔ ∃ i k, k < i ∧ i < l.length ∧ l.getD i [] = l.getD k []
  | [] => by simp [dupL]
  | x :: r => by
    unfold dupL
    rw [Bool.or_eq_true, dupL_get r, decide_eq_true_iff]
    constructor
    · rintro (h | ⟨i, k, h1, h2, h3⟩)
      · obtain ⟨i, hi, e⟩ := List.getElem_of_mem h
        exact ⟨i + 1, 0, by omega, by rw [List.length_cons]; omega, by simp [List.getD, hi, e]⟩
      · exact ⟨i + 1, k + 1, by omega, by rw [List.length_cons]; omega, by simpa [List.getD] using h3⟩
    · rintro ⟨i, k, h1, h2, h3⟩
      rw [List.length_cons] at h2
      obtain ⟨i, rfl⟩ : ∃ j, i = j + 1 := ⟨i - 1, by omega⟩
      cases k with
      | zero =>
        left
        have hi : i < r.length := by omega
        have : r[i] = x := by simpa [List.getD, hi] using h3
        rw [← this]
        exact List.getElem_mem hi
      | succ k => exact .inr ⟨i, k, by omega, by omega, by simpa [List.getD] using h3⟩
set_option maxHeartbeats 1600000 in
set_option maxRecDepth 100000 in
theorem twice_any (l : List (List UInt8)) (A : Option Addr) (n c : Nat) (w : World) (hr : Reads w w.heap.size 1 A n (tx l)) (hn : n ≤ 140737488355328) :
    Calls Tryz.prog 134 #[.slice A n c] w fun x w' => x = .returned (.bool (dupL l)) ∧ Below w.heap.size w w' := by
  have hl : l.length = n := by have := hr.1; rw [tx_length] at this; omega
  have HL := Lib.hid hl
  have HR := Lib.hid hr
  clear hl hr
  go_enter Tryz.func134, Tryz.ntmps134
  go_wp2_with fail
  go_loopw [3] (fun i wr => ∃ j : Nat, j ≤ n ∧ i = .int .i64 j ∧ Hid (∀ a b, b < a → a < j → l.getD a [] ≠ l.getD b []) ∧ Hid (Below w.heap.size w wr)) (fun i _ => n - (intOf i).toNat)
  case atStart => exact ⟨0, by omega, rfl, Lib.hid (fun a b _ h => absurd h (by omega)), Lib.hid (Below.refl _ _)⟩
  case round =>
    obtain ⟨j, hj, rfl, HN, HW⟩ := hrel
    obtain ⟨w1, hw1⟩ : ∃ w1, w1 = wr := ⟨_, rfl⟩
    subst hw1
    by_cases hlt : j < n
    · go_wp2_with fail
      go_loopw [4] (fun i wr => ∃ k : Nat, k ≤ j ∧ i = .int .i64 k ∧ Hid (∀ b, b < k → l.getD j [] ≠ l.getD b []) ∧ Hid (Below w.heap.size w wr)) (fun i _ => j - (intOf i).toNat)
      case atStart => exact ⟨0, by omega, rfl, Lib.hid (fun b h => absurd h (by omega)), HW⟩
      case round =>
        clear HW
        obtain ⟨k, hk, rfl, HM, HW⟩ := hrel
        by_cases hkj : k < j
        · obtain ⟨ad, u, rfl, _, hu, hc⟩ := (HR.out.below HW.out).at_ hlt
          obtain ⟨ad', u', hadd, _, hu', hc'⟩ := (HR.out.below HW.out).at_ (show k < n by omega)
          cases hadd
          obtain rfl := tx_get hu (by have := HL.out; omega)
          obtain rfl := tx_get hu' (by have := HL.out; omega)
          have HX : Hid (l.getD j [] = l.getD k [] → dupL l = true) := Lib.hid (fun h => (dupL_get l).2 ⟨j, k, hkj, by have := HL.out; omega, h⟩)
          have HY : Hid (l.getD j [] ≠ l.getD k [] → ∀ b, b < k + 1 → l.getD j [] ≠ l.getD b []) := Lib.hid (fun h b hb => by
            rcases Nat.lt_or_ge b k with h1 | h1
            · exact HM.out b h1
            · obtain rfl : b = k := by omega
              exact h)
          clear hu hu'
          obtain ⟨p, hp⟩ : ∃ p, p = l.getD j [] := ⟨_, rfl⟩
          obtain ⟨q, hq⟩ : ∃ q, q = l.getD k [] := ⟨_, rfl⟩
          rw [← hp] at hc
          rw [← hq] at hc'
          have HPQ := Lib.hid (And.intro hp hq)
          clear hp hq
          have c1 := fun wx => eq_texts p q wx
          by_cases hpq : p = q
          · rw [decide_eq_true hpq] at c1
            have H1 := Lib.hid (HX.out (by rw [← HPQ.out.1, ← HPQ.out.2]; exact hpq))
            go_wp2_with fail
            go_quiet (fail)
            have HW1 := Lib.hid (below_drewN HW.out nq)
            try rw [show (p == q) = true by simp [hpq]]
            go_wp2
            go_ret
            exact ⟨by rw [H1.out]; rfl, HW1.out⟩
          · rw [decide_eq_false hpq] at c1
            have H1 := Lib.hid (HY.out (by rw [← HPQ.out.1, ← HPQ.out.2]; exact hpq))
            go_wp2_with fail
            go_quiet (fail)
            have HW1 := Lib.hid (below_drewN HW.out nq)
            try rw [show (p == q) = false by simp [hpq]]
            go_wp2
            go_roundw
            case rel => exact ⟨k + 1, by omega, by go_num, H1, HW1⟩
            case measure => simp [intOf]; omega
        · obtain rfl : k = j := by omega
          have H1 : Hid (∀ a b, b < a → a < k + 1 → l.getD a [] ≠ l.getD b []) := Lib.hid (fun a b h1 h2 => by
            rcases Nat.lt_or_ge a k with h | h
            · exact HN.out a b h1 h
            · obtain rfl : a = k := by omega
              exact HM.out b h1)
          go_wp2_with fail
          go_roundw
          case rel => exact ⟨k + 1, by omega, by go_num, H1, HW⟩
          case measure => simp [intOf]; omega
    · have HD : Hid (dupL l = false) := Lib.hid (by
        cases e : dupL l
        · rfl
        · obtain ⟨i, k, h1, h2, h3⟩ := (dupL_get l).1 e
          exact absurd h3 (HN.out i k h1 (by have := HL.out; omega)))
      go_wp2_with fail
      go_ret
      exact ⟨by rw [HD.out]; rfl, HW.out⟩
end Js
end Go.Proofs.YtlfeddgpfaigkaaGreatDoor
namespace Go.Proofs.YtlfeddgpfaigkaaGreatDoor
open Go.RowKit
namespace Js
def clsN (c : UInt8) : Nat := if 194 ≤ c.toNat ∧ c.toNat ≤ 223 then 2 else if 224 ≤ c.toNat ∧ c.toNat ≤ 239 then 3 else if 240 ≤ c.toNat ∧ c.toNat ≤ 244 then 4 else 0
def clsLo (c : UInt8) : Nat := if c.toNat = 224 then 160 else if c.toNat = 240 then 144 else 128
def clsHi (c : UInt8) : Nat := if c.toNat = 237 then 159 else if c.toNat = 244 then 143 else 191
def clsB (c : UInt8) (b1 b2 b3 q1 q2 q3 q4 : Bool) (n lo hi : Nat) : Bool :=
  (decide (194 ≤ c.toNat ∧ c.toNat ≤ 223) == b1) && ((decide (224 ≤ c.toNat ∧ c.toNat ≤ 239) == b2) && ((decide (240 ≤ c.toNat ∧ c.toNat ≤ 244) == b3) && ((((c.toNat : Int) == 224) == q1) && ((((c.toNat : Int) == 237) == q2) && ((((c.toNat : Int) == 240) == q3) && ((((c.toNat : Int) == 244) == q4) && (clsN c == n && (clsLo c == lo && clsHi c == hi))))))))
theorem clsB_is {c : UInt8} {b1 b2 b3 q1 q2 q3 q4 : Bool} {n lo hi : Nat} (h : clsB c b1 b2 b3 q1 q2 q3 q4 n lo hi = true) :
    decide (194 ≤ c.toNat ∧ c.toNat ≤ 223) = b1 ∧ decide (224 ≤ c.toNat ∧ c.toNat ≤ 239) = b2 ∧ decide (240 ≤ c.toNat ∧ c.toNat ≤ 244) = b3 ∧ ((c.toNat : Int) == 224) = q1 ∧ ((c.toNat : Int) == 237) = q2 ∧ ((c.toNat : Int) == 240) = q3 ∧ ((c.toNat : Int) == 244) = q4 ∧ clsN c = n ∧ clsLo c = lo ∧ clsHi c = hi := by
  unfold clsB at h
  rw [Bool.and_eq_true, Bool.and_eq_true, Bool.and_eq_true, Bool.and_eq_true, Bool.and_eq_true, Bool.and_eq_true, Bool.and_eq_true, Bool.and_eq_true, Bool.and_eq_true] at h
  obtain ⟨h1, h2, h3, h4, h5, h6, h7, h8, h9, h10⟩ := h
  exact ⟨eq_of_beq h1, eq_of_beq h2, eq_of_beq h3, eq_of_beq h4, eq_of_beq h5, eq_of_beq h6, eq_of_beq h7, eq_of_beq h8, eq_of_beq h9, eq_of_beq h10⟩
theorem cls8 (c : UInt8) : c.toNat < 128 ∨ clsB c true false false false false false false 2 128 191 = true ∨ clsB c false true false true false false false 3 160 191 = true ∨ clsB c false true false false true false false 3 128 159 = true ∨ clsB c false true false false false false false 3 128 191 = true ∨ clsB c false false true false false true false 4 144 191 = true ∨ clsB c false false true false false false true 4 128 143 = true ∨ clsB c false false true false false false false 4 128 191 = true ∨ clsB c false false false false false false false 0 128 191 = true := by
  have := all_bytes (p := fun c => decide (c.toNat < 128 ∨ clsB c true false false false false false false 2 128 191 = true ∨ clsB c false true false true false false false 3 160 191 = true ∨ clsB c false true false false true false false 3 128 159 = true ∨ clsB c false true false false false false false 3 128 191 = true ∨ clsB c false false true false false true false 4 144 191 = true ∨ clsB c false false true false false false true 4 128 143 = true ∨ clsB c false false true false false false false 4 128 191 = true ∨ clsB c false false false false false false false 0 128 191 = true)) (by decide +kernel) c
  exact of_decide_eq_true this
/-- What the first character is, by its class. -/
def charG (c : UInt8) (r : List UInt8) : Nat :=
  if clsN c = 0 ∨ r.length + 1 < clsN c ∨ ¬ (clsLo c ≤ (r.getD 0 0).toNat ∧ (r.getD 0 0).toNat ≤ clsHi c) then 0
  else if (2 < clsN c → cont (r.getD 1 0) = true) ∧ (3 < clsN c → cont (r.getD 2 0) = true) then clsN c else 0
theorem char_cls {c : UInt8} (h : ¬ c.toNat < 128) (r : List UInt8) : char (c :: r) = charG c r := by
  unfold char charG clsN clsLo clsHi
  dsimp only
  rw [if_neg h]
  by_cases h2 : 194 ≤ c.toNat ∧ c.toNat ≤ 223
  · have e1 : c.toNat ≠ 224 := by omega
    have e2 : c.toNat ≠ 240 := by omega
    have e3 : c.toNat ≠ 237 := by omega
    have e4 : c.toNat ≠ 244 := by omega
    cases r with
    | nil => simp [h2, e1, e2, e3, e4]
    | cons x r => by_cases hx : 128 ≤ x.toNat ∧ x.toNat ≤ 191 <;> simp [h2, e1, e2, e3, e4, cont, hx]
  · by_cases h3 : 224 ≤ c.toNat ∧ c.toNat ≤ 239
    · have e2 : c.toNat ≠ 240 := by omega
      have e4 : c.toNat ≠ 244 := by omega
      rw [if_neg h2, if_pos h3, if_neg h2, if_pos h3, if_neg e2, if_neg e4]
      rcases r with _ | ⟨x, _ | ⟨y, r⟩⟩
      · simp
      · simp
      · simp only [List.length_cons, List.getD_cons_zero, List.getD_cons_succ]
        generalize (if c.toNat = 224 then 160 else 128) = lo
        generalize (if c.toNat = 237 then 159 else 191) = hi
        by_cases h5 : lo ≤ x.toNat ∧ x.toNat ≤ hi
        · have n1 : ¬ (3 = 0 ∨ r.length + 1 + 1 + 1 < 3 ∨ ¬(lo ≤ x.toNat ∧ x.toNat ≤ hi)) := by
            rintro (e | e | e)
            · omega
            · omega
            · exact e h5
          rw [if_neg n1]
          by_cases h6 : cont y = true
          · rw [if_pos ⟨h5.1, h5.2, h6⟩, if_pos ⟨fun _ => h6, fun e => absurd e (by decide)⟩]
          · rw [if_neg (fun e => h6 e.2.2), if_neg (fun e => h6 (e.1 (by decide)))]
        · rw [if_neg (fun e => h5 ⟨e.1, e.2.1⟩), if_pos (.inr (.inr h5))]
    · by_cases h4 : 240 ≤ c.toNat ∧ c.toNat ≤ 244
      · have e1 : c.toNat ≠ 224 := by omega
        have e3 : c.toNat ≠ 237 := by omega
        rw [if_neg h2, if_neg h3, if_pos h4, if_neg h2, if_neg h3, if_pos h4, if_neg e1, if_neg e3]
        rcases r with _ | ⟨x, _ | ⟨y, _ | ⟨z, r⟩⟩⟩
        · simp
        · simp
        · simp
        · simp only [List.length_cons, List.getD_cons_zero, List.getD_cons_succ]
          generalize (if c.toNat = 240 then 144 else 128) = lo
          generalize (if c.toNat = 244 then 143 else 191) = hi
          by_cases h5 : lo ≤ x.toNat ∧ x.toNat ≤ hi
          · have n1 : ¬ (4 = 0 ∨ r.length + 1 + 1 + 1 + 1 < 4 ∨ ¬(lo ≤ x.toNat ∧ x.toNat ≤ hi)) := by
              rintro (e | e | e)
              · omega
              · omega
              · exact e h5
            rw [if_neg n1]
            by_cases h6 : cont y = true
            · by_cases h7 : cont z = true
              · rw [if_pos ⟨h5.1, h5.2, h6, h7⟩, if_pos ⟨fun _ => h6, fun _ => h7⟩]
              · rw [if_neg (fun e => h7 e.2.2.2), if_neg (fun e => h7 (e.2 (by decide)))]
            · rw [if_neg (fun e => h6 e.2.2.1), if_neg (fun e => h6 (e.1 (by decide)))]
          · rw [if_neg (fun e => h5 ⟨e.1, e.2.1⟩), if_pos (.inr (.inr h5))]
      · rw [if_neg h2, if_neg h3, if_neg h4, if_neg h2, if_neg h3, if_neg h4]; simp
set_option maxHeartbeats 800000 in
theorem within_any (a lo hi : Int) (w : World) : Calls Tryz.prog 145 #[.int .u8 a, .int .u8 lo, .int .u8 hi] w fun x w' => x = .returned (.bool (decide (lo ≤ a ∧ a ≤ hi))) ∧ w = w' := by
  by_cases h1 : lo ≤ a
  · have q1 : (lo ≤ a) = True := eq_true h1
    by_cases h2 : a ≤ hi
    · have q2 : (a ≤ hi) = True := eq_true h2
      have HR : Hid (decide (lo ≤ a ∧ a ≤ hi) = true) := Lib.hid (decide_eq_true ⟨h1, h2⟩)
      generalize decide (lo ≤ a ∧ a ≤ hi) = r at HR ⊢
      clear h1 h2
      go_enter Tryz.func145, Tryz.ntmps145
      go_wp2
      go_ret
      exact ⟨by rw [HR.out]; rfl, rfl⟩
    · have q2 : (a ≤ hi) = False := eq_false h2
      have HR : Hid (decide (lo ≤ a ∧ a ≤ hi) = false) := Lib.hid (decide_eq_false (fun h => h2 h.2))
      generalize decide (lo ≤ a ∧ a ≤ hi) = r at HR ⊢
      clear h1 h2
      go_enter Tryz.func145, Tryz.ntmps145
      go_wp2
      go_ret
      exact ⟨by rw [HR.out]; rfl, rfl⟩
  · have q1 : (lo ≤ a) = False := eq_false h1
    have HR : Hid (decide (lo ≤ a ∧ a ≤ hi) = false) := Lib.hid (decide_eq_false (fun h => h1 h.1))
    generalize decide (lo ≤ a ∧ a ≤ hi) = r at HR ⊢
    clear h1
    go_enter Tryz.func145, Tryz.ntmps145
    go_wp2
    go_ret
    exact ⟨by rw [HR.out]; rfl, rfl⟩
theorem within_is {c : UInt8} {lo hi : Nat} {b : Bool} (h : decide (lo ≤ c.toNat ∧ c.toNat ≤ hi) = b) (w : World) : Calls Tryz.prog 145 #[.int .u8 (c.toNat : Int), .int .u8 (lo : Int), .int .u8 (hi : Int)] w fun x w' => x = .returned (.bool b) ∧ w = w' := by
  refine (within_any _ _ _ w).mono ?_
  rintro x w' ⟨rfl, rfl⟩
  refine ⟨?_, rfl⟩
  rw [← h]
  congr 3
  exact propext ⟨fun e => ⟨by omega, by omega⟩, fun e => ⟨by omega, by omega⟩⟩
end Js
end Go.Proofs.YtlfeddgpfaigkaaGreatDoor
namespace Go.Proofs.YtlfeddgpfaigkaaGreatDoor
open Go.RowKit
namespace Js
theorem getD_drop1 (s : List UInt8) (i k : Nat) : (s.drop (i + 1)).getD k 0 = s.getD (i + 1 + k) 0 := by simp [List.getD, List.getElem?_drop]
/-- The character that begins at i, its first byte being none of itself. -/
theorem char_at {s : List UInt8} {i : Nat} (hi : i < s.length) (h : ¬ (s.getD i 0).toNat < 128) {n lo hi' : Nat} (hn : clsN (s.getD i 0) = n) (hlo : clsLo (s.getD i 0) = lo) (hhi : clsHi (s.getD i 0) = hi') :
    char (s.drop i) = if n = 0 ∨ s.length < i + n ∨ ¬ (lo ≤ (s.getD (i + 1) 0).toNat ∧ (s.getD (i + 1) 0).toNat ≤ hi') then 0
      else if (2 < n → cont (s.getD (i + 2) 0) = true) ∧ (3 < n → cont (s.getD (i + 3) 0) = true) then n else 0 := by
  have e : s.drop i = s.getD i 0 :: s.drop (i + 1) := by
    rw [List.drop_eq_getElem_cons hi]
    simp [List.getD, List.getElem?_eq_getElem hi]
  rw [e, char_cls h]
  unfold charG
  rw [hn, hlo, hhi, getD_drop1, getD_drop1, getD_drop1, List.length_drop]
  have : (s.length - (i + 1) + 1 < n) = (s.length < i + n) := propext ⟨fun _ => by omega, fun _ => by omega⟩
  simp only [this]
theorem char_zero {s : List UInt8} {i : Nat} (hi : i < s.length) (h : (s.getD i 0).toNat < 128) : char (s.drop i) = 1 := by
  have e : s.drop i = s.getD i 0 :: s.drop (i + 1) := by
    rw [List.drop_eq_getElem_cons hi]
    simp [List.getD, List.getElem?_eq_getElem hi]
  rw [e, char_ascii h]
theorem contw (x : UInt8) {b : Bool} (h : cont x = b) : decide (128 ≤ x.toNat ∧ x.toNat ≤ 191) = b := h
set_option maxHeartbeats 8000000 in
set_option maxRecDepth 100000 in
theorem charR_any (s : List UInt8) (i : Nat) (w : World) (hi : i < s.length) (hs : s.length ≤ 140737488355328) :
    Calls Tryz.prog 105 #[.string ⟨s.toArray⟩, .int .i64 i] w fun x w' => x = .returned (.int .i64 (char (s.drop i) : Nat)) ∧ w = w' := by
  have hidx := run_index_list Tryz.underlying9 s i hi
  have HZ := Lib.hid (char_zero hi)
  have HC : Hid (∀ (n lo hi' : Nat), ¬ (s.getD i 0).toNat < 128 → clsN (s.getD i 0) = n → clsLo (s.getD i 0) = lo → clsHi (s.getD i 0) = hi' → _) := Lib.hid (fun n lo hi' h h1 h2 h3 => char_at hi h h1 h2 h3)
  generalize s.getD i 0 = c at hidx HZ HC
  generalize char (s.drop i) = r at HZ HC ⊢
  by_cases h128 : c.toNat < 128
  · have l1 : ((c.toNat : Int) < 128) = True := eq_true (by omega)
    have HR := Lib.hid (HZ.out h128)
    clear HC HZ h128
    go_enter Tryz.func105, Tryz.ntmps105
    go_wp2
    go_ret
    exact ⟨by rw [HR.out]; rfl, rfl⟩
  · have l1 : ((c.toNat : Int) < 128) = False := eq_false (by omega)
    rcases (cls8 c).resolve_left h128 with h | h | h | h | h | h | h | h
    · obtain ⟨e1, e2, e3, q1, q2, q3, q4, hn, hlo, hhi⟩ := clsB_is h
      have HR := Lib.hid (HC.out 2 128 191 h128 hn hlo hhi)
      have HW1 := Lib.hid (fun wx => within_is e1 wx)
      have HW2 := Lib.hid (fun wx => within_is e2 wx)
      have HW3 := Lib.hid (fun wx => within_is e3 wx)
      clear HC HZ h h128 hn hlo hhi e1 e2 e3
      by_cases hfit : s.length < i + 2
      · have HQ : Hid (r = 0) := Lib.hid (by rw [HR.out, if_pos (.inr (.inl hfit))])
        have l2 : ((s.length : Int) < (i : Int) + 2) = True := eq_true (by omega)
        clear HR
        go_enter Tryz.func105, Tryz.ntmps105
        go_wp2_with fail
        refine (HW1.out _).mono ?_
        rintro x wy ⟨rfl, rfl⟩
        go_wp2
        go_ret
        exact ⟨by rw [HQ.out]; rfl, rfl⟩
      · have l2 : ((s.length : Int) < (i : Int) + 2) = False := eq_false (by omega)
        have hidx1 := run_index_list Tryz.underlying9 s (i + 1) (by omega)
        push_cast at hidx1
        have HX : Hid (¬ (s.length < i + 2)) := Lib.hid hfit
        generalize s.getD (i + 1) 0 = x1 at hidx1 HR
        by_cases hx : 128 ≤ x1.toNat ∧ x1.toNat ≤ 191
        · have HW4 := Lib.hid (fun wx => within_is (lo := 128) (hi := 191) (decide_eq_true hx) wx)
          have HQ : Hid (r = if (2 < 2 → cont (s.getD (i + 2) 0) = true) ∧ (3 < 2 → cont (s.getD (i + 3) 0) = true) then 2 else 0) := Lib.hid (by
            rw [HR.out, if_neg]
            rintro (e | e | e)
            · exact absurd e (by decide)
            · exact HX.out e
            · exact e hx)
          clear HR hx
          go_enter Tryz.func105, Tryz.ntmps105
          go_wp2_with fail
          refine (HW1.out _).mono ?_
          rintro x wy ⟨rfl, rfl⟩
          go_wp2_with fail
          refine (HW4.out _).mono ?_
          rintro x wy ⟨rfl, rfl⟩
          go_wp2_with fail
          go_loopw [9] (fun kv wr => ∃ j : Nat, 2 ≤ j ∧ j ≤ 2 ∧ kv = .int .i64 j ∧ Hid (∀ q, 2 ≤ q → q < j → cont (s.getD (i + q) 0) = true) ∧ wr = w) (fun kv _ => 2 - (intOf kv).toNat)
          case atStart => exact ⟨2, by omega, by omega, rfl, Lib.hid (fun q h1 h2 => absurd h2 (by omega)), rfl⟩
          case round =>
            clear HW1 HW2 HW3 HW4
            obtain ⟨j, hj2, hjn, rfl, HA, hwr⟩ := hrel
            subst hwr
            by_cases hlt : j < 2
            · exact absurd hlt (by omega)
            · have HF : Hid (r = 2) := Lib.hid (by
                rw [HQ.out, if_pos ⟨fun e => HA.out 2 (by omega) (by omega), fun e => HA.out 3 (by omega) (by omega)⟩])
              go_wp2_with fail
              go_ret
              exact ⟨by rw [HF.out]; rfl, rfl⟩
        · have HW4 := Lib.hid (fun wx => within_is (lo := 128) (hi := 191) (decide_eq_false hx) wx)
          have HQ : Hid (r = 0) := Lib.hid (by rw [HR.out, if_pos (.inr (.inr hx))])
          clear HR hx
          go_enter Tryz.func105, Tryz.ntmps105
          go_wp2_with fail
          refine (HW1.out _).mono ?_
          rintro x wy ⟨rfl, rfl⟩
          go_wp2_with fail
          refine (HW4.out _).mono ?_
          rintro x wy ⟨rfl, rfl⟩
          go_wp2
          go_ret
          exact ⟨by rw [HQ.out]; rfl, rfl⟩
    · obtain ⟨e1, e2, e3, q1, q2, q3, q4, hn, hlo, hhi⟩ := clsB_is h
      have HR := Lib.hid (HC.out 3 160 191 h128 hn hlo hhi)
      have HW1 := Lib.hid (fun wx => within_is e1 wx)
      have HW2 := Lib.hid (fun wx => within_is e2 wx)
      have HW3 := Lib.hid (fun wx => within_is e3 wx)
      clear HC HZ h h128 hn hlo hhi e1 e2 e3
      by_cases hfit : s.length < i + 3
      · have HQ : Hid (r = 0) := Lib.hid (by rw [HR.out, if_pos (.inr (.inl hfit))])
        have l2 : ((s.length : Int) < (i : Int) + 3) = True := eq_true (by omega)
        clear HR
        go_enter Tryz.func105, Tryz.ntmps105
        go_wp2_with fail
        refine (HW1.out _).mono ?_
        rintro x wy ⟨rfl, rfl⟩
        go_wp2_with fail
        refine (HW2.out _).mono ?_
        rintro x wy ⟨rfl, rfl⟩
        go_wp2
        go_ret
        exact ⟨by rw [HQ.out]; rfl, rfl⟩
      · have l2 : ((s.length : Int) < (i : Int) + 3) = False := eq_false (by omega)
        have hidx1 := run_index_list Tryz.underlying9 s (i + 1) (by omega)
        push_cast at hidx1
        have HX : Hid (¬ (s.length < i + 3)) := Lib.hid hfit
        generalize s.getD (i + 1) 0 = x1 at hidx1 HR
        by_cases hx : 160 ≤ x1.toNat ∧ x1.toNat ≤ 191
        · have HW4 := Lib.hid (fun wx => within_is (lo := 160) (hi := 191) (decide_eq_true hx) wx)
          have HQ : Hid (r = if (2 < 3 → cont (s.getD (i + 2) 0) = true) ∧ (3 < 3 → cont (s.getD (i + 3) 0) = true) then 3 else 0) := Lib.hid (by
            rw [HR.out, if_neg]
            rintro (e | e | e)
            · exact absurd e (by decide)
            · exact HX.out e
            · exact e hx)
          clear HR hx
          go_enter Tryz.func105, Tryz.ntmps105
          go_wp2_with fail
          refine (HW1.out _).mono ?_
          rintro x wy ⟨rfl, rfl⟩
          go_wp2_with fail
          refine (HW2.out _).mono ?_
          rintro x wy ⟨rfl, rfl⟩
          go_wp2_with fail
          refine (HW4.out _).mono ?_
          rintro x wy ⟨rfl, rfl⟩
          go_wp2_with fail
          go_loopw [9] (fun kv wr => ∃ j : Nat, 2 ≤ j ∧ j ≤ 3 ∧ kv = .int .i64 j ∧ Hid (∀ q, 2 ≤ q → q < j → cont (s.getD (i + q) 0) = true) ∧ wr = w) (fun kv _ => 3 - (intOf kv).toNat)
          case atStart => exact ⟨2, by omega, by omega, rfl, Lib.hid (fun q h1 h2 => absurd h2 (by omega)), rfl⟩
          case round =>
            clear HW1 HW2 HW3 HW4
            obtain ⟨j, hj2, hjn, rfl, HA, hwr⟩ := hrel
            subst hwr
            by_cases hlt : j < 3
            · have hidx2 := run_index_list Tryz.underlying9 s (i + j) (by omega)
              push_cast at hidx2
              by_cases hc : cont (s.getD (i + j) 0) = true
              · have HW5 := Lib.hid (fun wx => within_is (contw _ hc) wx)
                have H1 : Hid (∀ q, 2 ≤ q → q < j + 1 → cont (s.getD (i + q) 0) = true) := Lib.hid (fun q h1 h2 => by
                  rcases Nat.lt_or_ge q j with h | h
                  · exact HA.out q h1 h
                  · obtain rfl : q = j := by omega
                    exact hc)
                clear hc
                generalize s.getD (i + j) 0 = x2 at hidx2 HW5
                go_wp2_with fail
                refine (HW5.out _).mono ?_
                rintro x wy ⟨rfl, rfl⟩
                go_wp2_with fail
                go_roundw
                case rel => exact ⟨j + 1, by omega, by omega, by go_num, H1, trivial⟩
                case measure => simp [intOf]; omega
              · have HW5 := Lib.hid (fun wx => within_is (contw _ (Bool.eq_false_iff.2 hc)) wx)
                have HF : Hid (r = 0) := Lib.hid (by
                  rw [HQ.out, if_neg]
                  rintro ⟨g1, g2⟩
                  rcases (show j = 2 ∨ j = 3 by omega) with rfl | rfl
                  · exact hc (g1 (by omega))
                  · exact hc (g2 (by omega)))
                clear hc
                generalize s.getD (i + j) 0 = x2 at hidx2 HW5
                go_wp2_with fail
                refine (HW5.out _).mono ?_
                rintro x wy ⟨rfl, rfl⟩
                go_wp2_with fail
                go_ret
                exact ⟨by rw [HF.out]; rfl, rfl⟩
            · have HF : Hid (r = 3) := Lib.hid (by
                rw [HQ.out, if_pos ⟨fun e => HA.out 2 (by omega) (by omega), fun e => HA.out 3 (by omega) (by omega)⟩])
              go_wp2_with fail
              go_ret
              exact ⟨by rw [HF.out]; rfl, rfl⟩
        · have HW4 := Lib.hid (fun wx => within_is (lo := 160) (hi := 191) (decide_eq_false hx) wx)
          have HQ : Hid (r = 0) := Lib.hid (by rw [HR.out, if_pos (.inr (.inr hx))])
          clear HR hx
          go_enter Tryz.func105, Tryz.ntmps105
          go_wp2_with fail
          refine (HW1.out _).mono ?_
          rintro x wy ⟨rfl, rfl⟩
          go_wp2_with fail
          refine (HW2.out _).mono ?_
          rintro x wy ⟨rfl, rfl⟩
          go_wp2_with fail
          refine (HW4.out _).mono ?_
          rintro x wy ⟨rfl, rfl⟩
          go_wp2
          go_ret
          exact ⟨by rw [HQ.out]; rfl, rfl⟩
    · obtain ⟨e1, e2, e3, q1, q2, q3, q4, hn, hlo, hhi⟩ := clsB_is h
      have HR := Lib.hid (HC.out 3 128 159 h128 hn hlo hhi)
      have HW1 := Lib.hid (fun wx => within_is e1 wx)
      have HW2 := Lib.hid (fun wx => within_is e2 wx)
      have HW3 := Lib.hid (fun wx => within_is e3 wx)
      clear HC HZ h h128 hn hlo hhi e1 e2 e3
      by_cases hfit : s.length < i + 3
      · have HQ : Hid (r = 0) := Lib.hid (by rw [HR.out, if_pos (.inr (.inl hfit))])
        have l2 : ((s.length : Int) < (i : Int) + 3) = True := eq_true (by omega)
        clear HR
        go_enter Tryz.func105, Tryz.ntmps105
        go_wp2_with fail
        refine (HW1.out _).mono ?_
        rintro x wy ⟨rfl, rfl⟩
        go_wp2_with fail
        refine (HW2.out _).mono ?_
        rintro x wy ⟨rfl, rfl⟩
        go_wp2
        go_ret
        exact ⟨by rw [HQ.out]; rfl, rfl⟩
      · have l2 : ((s.length : Int) < (i : Int) + 3) = False := eq_false (by omega)
        have hidx1 := run_index_list Tryz.underlying9 s (i + 1) (by omega)
        push_cast at hidx1
        have HX : Hid (¬ (s.length < i + 3)) := Lib.hid hfit
        generalize s.getD (i + 1) 0 = x1 at hidx1 HR
        by_cases hx : 128 ≤ x1.toNat ∧ x1.toNat ≤ 159
        · have HW4 := Lib.hid (fun wx => within_is (lo := 128) (hi := 159) (decide_eq_true hx) wx)
          have HQ : Hid (r = if (2 < 3 → cont (s.getD (i + 2) 0) = true) ∧ (3 < 3 → cont (s.getD (i + 3) 0) = true) then 3 else 0) := Lib.hid (by
            rw [HR.out, if_neg]
            rintro (e | e | e)
            · exact absurd e (by decide)
            · exact HX.out e
            · exact e hx)
          clear HR hx
          go_enter Tryz.func105, Tryz.ntmps105
          go_wp2_with fail
          refine (HW1.out _).mono ?_
          rintro x wy ⟨rfl, rfl⟩
          go_wp2_with fail
          refine (HW2.out _).mono ?_
          rintro x wy ⟨rfl, rfl⟩
          go_wp2_with fail
          refine (HW4.out _).mono ?_
          rintro x wy ⟨rfl, rfl⟩
          go_wp2_with fail
          go_loopw [9] (fun kv wr => ∃ j : Nat, 2 ≤ j ∧ j ≤ 3 ∧ kv = .int .i64 j ∧ Hid (∀ q, 2 ≤ q → q < j → cont (s.getD (i + q) 0) = true) ∧ wr = w) (fun kv _ => 3 - (intOf kv).toNat)
          case atStart => exact ⟨2, by omega, by omega, rfl, Lib.hid (fun q h1 h2 => absurd h2 (by omega)), rfl⟩
          case round =>
            clear HW1 HW2 HW3 HW4
            obtain ⟨j, hj2, hjn, rfl, HA, hwr⟩ := hrel
            subst hwr
            by_cases hlt : j < 3
            · have hidx2 := run_index_list Tryz.underlying9 s (i + j) (by omega)
              push_cast at hidx2
              by_cases hc : cont (s.getD (i + j) 0) = true
              · have HW5 := Lib.hid (fun wx => within_is (contw _ hc) wx)
                have H1 : Hid (∀ q, 2 ≤ q → q < j + 1 → cont (s.getD (i + q) 0) = true) := Lib.hid (fun q h1 h2 => by
                  rcases Nat.lt_or_ge q j with h | h
                  · exact HA.out q h1 h
                  · obtain rfl : q = j := by omega
                    exact hc)
                clear hc
                generalize s.getD (i + j) 0 = x2 at hidx2 HW5
                go_wp2_with fail
                refine (HW5.out _).mono ?_
                rintro x wy ⟨rfl, rfl⟩
                go_wp2_with fail
                go_roundw
                case rel => exact ⟨j + 1, by omega, by omega, by go_num, H1, trivial⟩
                case measure => simp [intOf]; omega
              · have HW5 := Lib.hid (fun wx => within_is (contw _ (Bool.eq_false_iff.2 hc)) wx)
                have HF : Hid (r = 0) := Lib.hid (by
                  rw [HQ.out, if_neg]
                  rintro ⟨g1, g2⟩
                  rcases (show j = 2 ∨ j = 3 by omega) with rfl | rfl
                  · exact hc (g1 (by omega))
                  · exact hc (g2 (by omega)))
                clear hc
                generalize s.getD (i + j) 0 = x2 at hidx2 HW5
                go_wp2_with fail
                refine (HW5.out _).mono ?_
                rintro x wy ⟨rfl, rfl⟩
                go_wp2_with fail
                go_ret
                exact ⟨by rw [HF.out]; rfl, rfl⟩
            · have HF : Hid (r = 3) := Lib.hid (by
                rw [HQ.out, if_pos ⟨fun e => HA.out 2 (by omega) (by omega), fun e => HA.out 3 (by omega) (by omega)⟩])
              go_wp2_with fail
              go_ret
              exact ⟨by rw [HF.out]; rfl, rfl⟩
        · have HW4 := Lib.hid (fun wx => within_is (lo := 128) (hi := 159) (decide_eq_false hx) wx)
          have HQ : Hid (r = 0) := Lib.hid (by rw [HR.out, if_pos (.inr (.inr hx))])
          clear HR hx
          go_enter Tryz.func105, Tryz.ntmps105
          go_wp2_with fail
          refine (HW1.out _).mono ?_
          rintro x wy ⟨rfl, rfl⟩
          go_wp2_with fail
          refine (HW2.out _).mono ?_
          rintro x wy ⟨rfl, rfl⟩
          go_wp2_with fail
          refine (HW4.out _).mono ?_
          rintro x wy ⟨rfl, rfl⟩
          go_wp2
          go_ret
          exact ⟨by rw [HQ.out]; rfl, rfl⟩
    · obtain ⟨e1, e2, e3, q1, q2, q3, q4, hn, hlo, hhi⟩ := clsB_is h
      have HR := Lib.hid (HC.out 3 128 191 h128 hn hlo hhi)
      have HW1 := Lib.hid (fun wx => within_is e1 wx)
      have HW2 := Lib.hid (fun wx => within_is e2 wx)
      have HW3 := Lib.hid (fun wx => within_is e3 wx)
      clear HC HZ h h128 hn hlo hhi e1 e2 e3
      by_cases hfit : s.length < i + 3
      · have HQ : Hid (r = 0) := Lib.hid (by rw [HR.out, if_pos (.inr (.inl hfit))])
        have l2 : ((s.length : Int) < (i : Int) + 3) = True := eq_true (by omega)
        clear HR
        go_enter Tryz.func105, Tryz.ntmps105
        go_wp2_with fail
        refine (HW1.out _).mono ?_
        rintro x wy ⟨rfl, rfl⟩
        go_wp2_with fail
        refine (HW2.out _).mono ?_
        rintro x wy ⟨rfl, rfl⟩
        go_wp2
        go_ret
        exact ⟨by rw [HQ.out]; rfl, rfl⟩
      · have l2 : ((s.length : Int) < (i : Int) + 3) = False := eq_false (by omega)
        have hidx1 := run_index_list Tryz.underlying9 s (i + 1) (by omega)
        push_cast at hidx1
        have HX : Hid (¬ (s.length < i + 3)) := Lib.hid hfit
        generalize s.getD (i + 1) 0 = x1 at hidx1 HR
        by_cases hx : 128 ≤ x1.toNat ∧ x1.toNat ≤ 191
        · have HW4 := Lib.hid (fun wx => within_is (lo := 128) (hi := 191) (decide_eq_true hx) wx)
          have HQ : Hid (r = if (2 < 3 → cont (s.getD (i + 2) 0) = true) ∧ (3 < 3 → cont (s.getD (i + 3) 0) = true) then 3 else 0) := Lib.hid (by
            rw [HR.out, if_neg]
            rintro (e | e | e)
            · exact absurd e (by decide)
            · exact HX.out e
            · exact e hx)
          clear HR hx
          go_enter Tryz.func105, Tryz.ntmps105
          go_wp2_with fail
          refine (HW1.out _).mono ?_
          rintro x wy ⟨rfl, rfl⟩
          go_wp2_with fail
          refine (HW2.out _).mono ?_
          rintro x wy ⟨rfl, rfl⟩
          go_wp2_with fail
          refine (HW4.out _).mono ?_
          rintro x wy ⟨rfl, rfl⟩
          go_wp2_with fail
          go_loopw [9] (fun kv wr => ∃ j : Nat, 2 ≤ j ∧ j ≤ 3 ∧ kv = .int .i64 j ∧ Hid (∀ q, 2 ≤ q → q < j → cont (s.getD (i + q) 0) = true) ∧ wr = w) (fun kv _ => 3 - (intOf kv).toNat)
          case atStart => exact ⟨2, by omega, by omega, rfl, Lib.hid (fun q h1 h2 => absurd h2 (by omega)), rfl⟩
          case round =>
            clear HW1 HW2 HW3 HW4
            obtain ⟨j, hj2, hjn, rfl, HA, hwr⟩ := hrel
            subst hwr
            by_cases hlt : j < 3
            · have hidx2 := run_index_list Tryz.underlying9 s (i + j) (by omega)
              push_cast at hidx2
              by_cases hc : cont (s.getD (i + j) 0) = true
              · have HW5 := Lib.hid (fun wx => within_is (contw _ hc) wx)
                have H1 : Hid (∀ q, 2 ≤ q → q < j + 1 → cont (s.getD (i + q) 0) = true) := Lib.hid (fun q h1 h2 => by
                  rcases Nat.lt_or_ge q j with h | h
                  · exact HA.out q h1 h
                  · obtain rfl : q = j := by omega
                    exact hc)
                clear hc
                generalize s.getD (i + j) 0 = x2 at hidx2 HW5
                go_wp2_with fail
                refine (HW5.out _).mono ?_
                rintro x wy ⟨rfl, rfl⟩
                go_wp2_with fail
                go_roundw
                case rel => exact ⟨j + 1, by omega, by omega, by go_num, H1, trivial⟩
                case measure => simp [intOf]; omega
              · have HW5 := Lib.hid (fun wx => within_is (contw _ (Bool.eq_false_iff.2 hc)) wx)
                have HF : Hid (r = 0) := Lib.hid (by
                  rw [HQ.out, if_neg]
                  rintro ⟨g1, g2⟩
                  rcases (show j = 2 ∨ j = 3 by omega) with rfl | rfl
                  · exact hc (g1 (by omega))
                  · exact hc (g2 (by omega)))
                clear hc
                generalize s.getD (i + j) 0 = x2 at hidx2 HW5
                go_wp2_with fail
                refine (HW5.out _).mono ?_
                rintro x wy ⟨rfl, rfl⟩
                go_wp2_with fail
                go_ret
                exact ⟨by rw [HF.out]; rfl, rfl⟩
            · have HF : Hid (r = 3) := Lib.hid (by
                rw [HQ.out, if_pos ⟨fun e => HA.out 2 (by omega) (by omega), fun e => HA.out 3 (by omega) (by omega)⟩])
              go_wp2_with fail
              go_ret
              exact ⟨by rw [HF.out]; rfl, rfl⟩
        · have HW4 := Lib.hid (fun wx => within_is (lo := 128) (hi := 191) (decide_eq_false hx) wx)
          have HQ : Hid (r = 0) := Lib.hid (by rw [HR.out, if_pos (.inr (.inr hx))])
          clear HR hx
          go_enter Tryz.func105, Tryz.ntmps105
          go_wp2_with fail
          refine (HW1.out _).mono ?_
          rintro x wy ⟨rfl, rfl⟩
          go_wp2_with fail
          refine (HW2.out _).mono ?_
          rintro x wy ⟨rfl, rfl⟩
          go_wp2_with fail
          refine (HW4.out _).mono ?_
          rintro x wy ⟨rfl, rfl⟩
          go_wp2
          go_ret
          exact ⟨by rw [HQ.out]; rfl, rfl⟩
    · obtain ⟨e1, e2, e3, q1, q2, q3, q4, hn, hlo, hhi⟩ := clsB_is h
      have HR := Lib.hid (HC.out 4 144 191 h128 hn hlo hhi)
      have HW1 := Lib.hid (fun wx => within_is e1 wx)
      have HW2 := Lib.hid (fun wx => within_is e2 wx)
      have HW3 := Lib.hid (fun wx => within_is e3 wx)
      clear HC HZ h h128 hn hlo hhi e1 e2 e3
      by_cases hfit : s.length < i + 4
      · have HQ : Hid (r = 0) := Lib.hid (by rw [HR.out, if_pos (.inr (.inl hfit))])
        have l2 : ((s.length : Int) < (i : Int) + 4) = True := eq_true (by omega)
        clear HR
        go_enter Tryz.func105, Tryz.ntmps105
        go_wp2_with fail
        refine (HW1.out _).mono ?_
        rintro x wy ⟨rfl, rfl⟩
        go_wp2_with fail
        refine (HW2.out _).mono ?_
        rintro x wy ⟨rfl, rfl⟩
        go_wp2_with fail
        refine (HW3.out _).mono ?_
        rintro x wy ⟨rfl, rfl⟩
        go_wp2
        go_ret
        exact ⟨by rw [HQ.out]; rfl, rfl⟩
      · have l2 : ((s.length : Int) < (i : Int) + 4) = False := eq_false (by omega)
        have hidx1 := run_index_list Tryz.underlying9 s (i + 1) (by omega)
        push_cast at hidx1
        have HX : Hid (¬ (s.length < i + 4)) := Lib.hid hfit
        generalize s.getD (i + 1) 0 = x1 at hidx1 HR
        by_cases hx : 144 ≤ x1.toNat ∧ x1.toNat ≤ 191
        · have HW4 := Lib.hid (fun wx => within_is (lo := 144) (hi := 191) (decide_eq_true hx) wx)
          have HQ : Hid (r = if (2 < 4 → cont (s.getD (i + 2) 0) = true) ∧ (3 < 4 → cont (s.getD (i + 3) 0) = true) then 4 else 0) := Lib.hid (by
            rw [HR.out, if_neg]
            rintro (e | e | e)
            · exact absurd e (by decide)
            · exact HX.out e
            · exact e hx)
          clear HR hx
          go_enter Tryz.func105, Tryz.ntmps105
          go_wp2_with fail
          refine (HW1.out _).mono ?_
          rintro x wy ⟨rfl, rfl⟩
          go_wp2_with fail
          refine (HW2.out _).mono ?_
          rintro x wy ⟨rfl, rfl⟩
          go_wp2_with fail
          refine (HW3.out _).mono ?_
          rintro x wy ⟨rfl, rfl⟩
          go_wp2_with fail
          refine (HW4.out _).mono ?_
          rintro x wy ⟨rfl, rfl⟩
          go_wp2_with fail
          go_loopw [9] (fun kv wr => ∃ j : Nat, 2 ≤ j ∧ j ≤ 4 ∧ kv = .int .i64 j ∧ Hid (∀ q, 2 ≤ q → q < j → cont (s.getD (i + q) 0) = true) ∧ wr = w) (fun kv _ => 4 - (intOf kv).toNat)
          case atStart => exact ⟨2, by omega, by omega, rfl, Lib.hid (fun q h1 h2 => absurd h2 (by omega)), rfl⟩
          case round =>
            clear HW1 HW2 HW3 HW4
            obtain ⟨j, hj2, hjn, rfl, HA, hwr⟩ := hrel
            subst hwr
            by_cases hlt : j < 4
            · have hidx2 := run_index_list Tryz.underlying9 s (i + j) (by omega)
              push_cast at hidx2
              by_cases hc : cont (s.getD (i + j) 0) = true
              · have HW5 := Lib.hid (fun wx => within_is (contw _ hc) wx)
                have H1 : Hid (∀ q, 2 ≤ q → q < j + 1 → cont (s.getD (i + q) 0) = true) := Lib.hid (fun q h1 h2 => by
                  rcases Nat.lt_or_ge q j with h | h
                  · exact HA.out q h1 h
                  · obtain rfl : q = j := by omega
                    exact hc)
                clear hc
                generalize s.getD (i + j) 0 = x2 at hidx2 HW5
                go_wp2_with fail
                refine (HW5.out _).mono ?_
                rintro x wy ⟨rfl, rfl⟩
                go_wp2_with fail
                go_roundw
                case rel => exact ⟨j + 1, by omega, by omega, by go_num, H1, trivial⟩
                case measure => simp [intOf]; omega
              · have HW5 := Lib.hid (fun wx => within_is (contw _ (Bool.eq_false_iff.2 hc)) wx)
                have HF : Hid (r = 0) := Lib.hid (by
                  rw [HQ.out, if_neg]
                  rintro ⟨g1, g2⟩
                  rcases (show j = 2 ∨ j = 3 by omega) with rfl | rfl
                  · exact hc (g1 (by omega))
                  · exact hc (g2 (by omega)))
                clear hc
                generalize s.getD (i + j) 0 = x2 at hidx2 HW5
                go_wp2_with fail
                refine (HW5.out _).mono ?_
                rintro x wy ⟨rfl, rfl⟩
                go_wp2_with fail
                go_ret
                exact ⟨by rw [HF.out]; rfl, rfl⟩
            · have HF : Hid (r = 4) := Lib.hid (by
                rw [HQ.out, if_pos ⟨fun e => HA.out 2 (by omega) (by omega), fun e => HA.out 3 (by omega) (by omega)⟩])
              go_wp2_with fail
              go_ret
              exact ⟨by rw [HF.out]; rfl, rfl⟩
        · have HW4 := Lib.hid (fun wx => within_is (lo := 144) (hi := 191) (decide_eq_false hx) wx)
          have HQ : Hid (r = 0) := Lib.hid (by rw [HR.out, if_pos (.inr (.inr hx))])
          clear HR hx
          go_enter Tryz.func105, Tryz.ntmps105
          go_wp2_with fail
          refine (HW1.out _).mono ?_
          rintro x wy ⟨rfl, rfl⟩
          go_wp2_with fail
          refine (HW2.out _).mono ?_
          rintro x wy ⟨rfl, rfl⟩
          go_wp2_with fail
          refine (HW3.out _).mono ?_
          rintro x wy ⟨rfl, rfl⟩
          go_wp2_with fail
          refine (HW4.out _).mono ?_
          rintro x wy ⟨rfl, rfl⟩
          go_wp2
          go_ret
          exact ⟨by rw [HQ.out]; rfl, rfl⟩
    · obtain ⟨e1, e2, e3, q1, q2, q3, q4, hn, hlo, hhi⟩ := clsB_is h
      have HR := Lib.hid (HC.out 4 128 143 h128 hn hlo hhi)
      have HW1 := Lib.hid (fun wx => within_is e1 wx)
      have HW2 := Lib.hid (fun wx => within_is e2 wx)
      have HW3 := Lib.hid (fun wx => within_is e3 wx)
      clear HC HZ h h128 hn hlo hhi e1 e2 e3
      by_cases hfit : s.length < i + 4
      · have HQ : Hid (r = 0) := Lib.hid (by rw [HR.out, if_pos (.inr (.inl hfit))])
        have l2 : ((s.length : Int) < (i : Int) + 4) = True := eq_true (by omega)
        clear HR
        go_enter Tryz.func105, Tryz.ntmps105
        go_wp2_with fail
        refine (HW1.out _).mono ?_
        rintro x wy ⟨rfl, rfl⟩
        go_wp2_with fail
        refine (HW2.out _).mono ?_
        rintro x wy ⟨rfl, rfl⟩
        go_wp2_with fail
        refine (HW3.out _).mono ?_
        rintro x wy ⟨rfl, rfl⟩
        go_wp2
        go_ret
        exact ⟨by rw [HQ.out]; rfl, rfl⟩
      · have l2 : ((s.length : Int) < (i : Int) + 4) = False := eq_false (by omega)
        have hidx1 := run_index_list Tryz.underlying9 s (i + 1) (by omega)
        push_cast at hidx1
        have HX : Hid (¬ (s.length < i + 4)) := Lib.hid hfit
        generalize s.getD (i + 1) 0 = x1 at hidx1 HR
        by_cases hx : 128 ≤ x1.toNat ∧ x1.toNat ≤ 143
        · have HW4 := Lib.hid (fun wx => within_is (lo := 128) (hi := 143) (decide_eq_true hx) wx)
          have HQ : Hid (r = if (2 < 4 → cont (s.getD (i + 2) 0) = true) ∧ (3 < 4 → cont (s.getD (i + 3) 0) = true) then 4 else 0) := Lib.hid (by
            rw [HR.out, if_neg]
            rintro (e | e | e)
            · exact absurd e (by decide)
            · exact HX.out e
            · exact e hx)
          clear HR hx
          go_enter Tryz.func105, Tryz.ntmps105
          go_wp2_with fail
          refine (HW1.out _).mono ?_
          rintro x wy ⟨rfl, rfl⟩
          go_wp2_with fail
          refine (HW2.out _).mono ?_
          rintro x wy ⟨rfl, rfl⟩
          go_wp2_with fail
          refine (HW3.out _).mono ?_
          rintro x wy ⟨rfl, rfl⟩
          go_wp2_with fail
          refine (HW4.out _).mono ?_
          rintro x wy ⟨rfl, rfl⟩
          go_wp2_with fail
          go_loopw [9] (fun kv wr => ∃ j : Nat, 2 ≤ j ∧ j ≤ 4 ∧ kv = .int .i64 j ∧ Hid (∀ q, 2 ≤ q → q < j → cont (s.getD (i + q) 0) = true) ∧ wr = w) (fun kv _ => 4 - (intOf kv).toNat)
          case atStart => exact ⟨2, by omega, by omega, rfl, Lib.hid (fun q h1 h2 => absurd h2 (by omega)), rfl⟩
          case round =>
            clear HW1 HW2 HW3 HW4
            obtain ⟨j, hj2, hjn, rfl, HA, hwr⟩ := hrel
            subst hwr
            by_cases hlt : j < 4
            · have hidx2 := run_index_list Tryz.underlying9 s (i + j) (by omega)
              push_cast at hidx2
              by_cases hc : cont (s.getD (i + j) 0) = true
              · have HW5 := Lib.hid (fun wx => within_is (contw _ hc) wx)
                have H1 : Hid (∀ q, 2 ≤ q → q < j + 1 → cont (s.getD (i + q) 0) = true) := Lib.hid (fun q h1 h2 => by
                  rcases Nat.lt_or_ge q j with h | h
                  · exact HA.out q h1 h
                  · obtain rfl : q = j := by omega
                    exact hc)
                clear hc
                generalize s.getD (i + j) 0 = x2 at hidx2 HW5
                go_wp2_with fail
                refine (HW5.out _).mono ?_
                rintro x wy ⟨rfl, rfl⟩
                go_wp2_with fail
                go_roundw
                case rel => exact ⟨j + 1, by omega, by omega, by go_num, H1, trivial⟩
                case measure => simp [intOf]; omega
              · have HW5 := Lib.hid (fun wx => within_is (contw _ (Bool.eq_false_iff.2 hc)) wx)
                have HF : Hid (r = 0) := Lib.hid (by
                  rw [HQ.out, if_neg]
                  rintro ⟨g1, g2⟩
                  rcases (show j = 2 ∨ j = 3 by omega) with rfl | rfl
                  · exact hc (g1 (by omega))
                  · exact hc (g2 (by omega)))
                clear hc
                generalize s.getD (i + j) 0 = x2 at hidx2 HW5
                go_wp2_with fail
                refine (HW5.out _).mono ?_
                rintro x wy ⟨rfl, rfl⟩
                go_wp2_with fail
                go_ret
                exact ⟨by rw [HF.out]; rfl, rfl⟩
            · have HF : Hid (r = 4) := Lib.hid (by
                rw [HQ.out, if_pos ⟨fun e => HA.out 2 (by omega) (by omega), fun e => HA.out 3 (by omega) (by omega)⟩])
              go_wp2_with fail
              go_ret
              exact ⟨by rw [HF.out]; rfl, rfl⟩
        · have HW4 := Lib.hid (fun wx => within_is (lo := 128) (hi := 143) (decide_eq_false hx) wx)
          have HQ : Hid (r = 0) := Lib.hid (by rw [HR.out, if_pos (.inr (.inr hx))])
          clear HR hx
          go_enter Tryz.func105, Tryz.ntmps105
          go_wp2_with fail
          refine (HW1.out _).mono ?_
          rintro x wy ⟨rfl, rfl⟩
          go_wp2_with fail
          refine (HW2.out _).mono ?_
          rintro x wy ⟨rfl, rfl⟩
          go_wp2_with fail
          refine (HW3.out _).mono ?_
          rintro x wy ⟨rfl, rfl⟩
          go_wp2_with fail
          refine (HW4.out _).mono ?_
          rintro x wy ⟨rfl, rfl⟩
          go_wp2
          go_ret
          exact ⟨by rw [HQ.out]; rfl, rfl⟩
    · obtain ⟨e1, e2, e3, q1, q2, q3, q4, hn, hlo, hhi⟩ := clsB_is h
      have HR := Lib.hid (HC.out 4 128 191 h128 hn hlo hhi)
      have HW1 := Lib.hid (fun wx => within_is e1 wx)
      have HW2 := Lib.hid (fun wx => within_is e2 wx)
      have HW3 := Lib.hid (fun wx => within_is e3 wx)
      clear HC HZ h h128 hn hlo hhi e1 e2 e3
      by_cases hfit : s.length < i + 4
      · have HQ : Hid (r = 0) := Lib.hid (by rw [HR.out, if_pos (.inr (.inl hfit))])
        have l2 : ((s.length : Int) < (i : Int) + 4) = True := eq_true (by omega)
        clear HR
        go_enter Tryz.func105, Tryz.ntmps105
        go_wp2_with fail
        refine (HW1.out _).mono ?_
        rintro x wy ⟨rfl, rfl⟩
        go_wp2_with fail
        refine (HW2.out _).mono ?_
        rintro x wy ⟨rfl, rfl⟩
        go_wp2_with fail
        refine (HW3.out _).mono ?_
        rintro x wy ⟨rfl, rfl⟩
        go_wp2
        go_ret
        exact ⟨by rw [HQ.out]; rfl, rfl⟩
      · have l2 : ((s.length : Int) < (i : Int) + 4) = False := eq_false (by omega)
        have hidx1 := run_index_list Tryz.underlying9 s (i + 1) (by omega)
        push_cast at hidx1
        have HX : Hid (¬ (s.length < i + 4)) := Lib.hid hfit
        generalize s.getD (i + 1) 0 = x1 at hidx1 HR
        by_cases hx : 128 ≤ x1.toNat ∧ x1.toNat ≤ 191
        · have HW4 := Lib.hid (fun wx => within_is (lo := 128) (hi := 191) (decide_eq_true hx) wx)
          have HQ : Hid (r = if (2 < 4 → cont (s.getD (i + 2) 0) = true) ∧ (3 < 4 → cont (s.getD (i + 3) 0) = true) then 4 else 0) := Lib.hid (by
            rw [HR.out, if_neg]
            rintro (e | e | e)
            · exact absurd e (by decide)
            · exact HX.out e
            · exact e hx)
          clear HR hx
          go_enter Tryz.func105, Tryz.ntmps105
          go_wp2_with fail
          refine (HW1.out _).mono ?_
          rintro x wy ⟨rfl, rfl⟩
          go_wp2_with fail
          refine (HW2.out _).mono ?_
          rintro x wy ⟨rfl, rfl⟩
          go_wp2_with fail
          refine (HW3.out _).mono ?_
          rintro x wy ⟨rfl, rfl⟩
          go_wp2_with fail
          refine (HW4.out _).mono ?_
          rintro x wy ⟨rfl, rfl⟩
          go_wp2_with fail
          go_loopw [9] (fun kv wr => ∃ j : Nat, 2 ≤ j ∧ j ≤ 4 ∧ kv = .int .i64 j ∧ Hid (∀ q, 2 ≤ q → q < j → cont (s.getD (i + q) 0) = true) ∧ wr = w) (fun kv _ => 4 - (intOf kv).toNat)
          case atStart => exact ⟨2, by omega, by omega, rfl, Lib.hid (fun q h1 h2 => absurd h2 (by omega)), rfl⟩
          case round =>
            clear HW1 HW2 HW3 HW4
            obtain ⟨j, hj2, hjn, rfl, HA, hwr⟩ := hrel
            subst hwr
            by_cases hlt : j < 4
            · have hidx2 := run_index_list Tryz.underlying9 s (i + j) (by omega)
              push_cast at hidx2
              by_cases hc : cont (s.getD (i + j) 0) = true
              · have HW5 := Lib.hid (fun wx => within_is (contw _ hc) wx)
                have H1 : Hid (∀ q, 2 ≤ q → q < j + 1 → cont (s.getD (i + q) 0) = true) := Lib.hid (fun q h1 h2 => by
                  rcases Nat.lt_or_ge q j with h | h
                  · exact HA.out q h1 h
                  · obtain rfl : q = j := by omega
                    exact hc)
                clear hc
                generalize s.getD (i + j) 0 = x2 at hidx2 HW5
                go_wp2_with fail
                refine (HW5.out _).mono ?_
                rintro x wy ⟨rfl, rfl⟩
                go_wp2_with fail
                go_roundw
                case rel => exact ⟨j + 1, by omega, by omega, by go_num, H1, trivial⟩
                case measure => simp [intOf]; omega
              · have HW5 := Lib.hid (fun wx => within_is (contw _ (Bool.eq_false_iff.2 hc)) wx)
                have HF : Hid (r = 0) := Lib.hid (by
                  rw [HQ.out, if_neg]
                  rintro ⟨g1, g2⟩
                  rcases (show j = 2 ∨ j = 3 by omega) with rfl | rfl
                  · exact hc (g1 (by omega))
                  · exact hc (g2 (by omega)))
                clear hc
                generalize s.getD (i + j) 0 = x2 at hidx2 HW5
                go_wp2_with fail
                refine (HW5.out _).mono ?_
                rintro x wy ⟨rfl, rfl⟩
                go_wp2_with fail
                go_ret
                exact ⟨by rw [HF.out]; rfl, rfl⟩
            · have HF : Hid (r = 4) := Lib.hid (by
                rw [HQ.out, if_pos ⟨fun e => HA.out 2 (by omega) (by omega), fun e => HA.out 3 (by omega) (by omega)⟩])
              go_wp2_with fail
              go_ret
              exact ⟨by rw [HF.out]; rfl, rfl⟩
        · have HW4 := Lib.hid (fun wx => within_is (lo := 128) (hi := 191) (decide_eq_false hx) wx)
          have HQ : Hid (r = 0) := Lib.hid (by rw [HR.out, if_pos (.inr (.inr hx))])
          clear HR hx
          go_enter Tryz.func105, Tryz.ntmps105
          go_wp2_with fail
          refine (HW1.out _).mono ?_
          rintro x wy ⟨rfl, rfl⟩
          go_wp2_with fail
          refine (HW2.out _).mono ?_
          rintro x wy ⟨rfl, rfl⟩
          go_wp2_with fail
          refine (HW3.out _).mono ?_
          rintro x wy ⟨rfl, rfl⟩
          go_wp2_with fail
          refine (HW4.out _).mono ?_
          rintro x wy ⟨rfl, rfl⟩
          go_wp2
          go_ret
          exact ⟨by rw [HQ.out]; rfl, rfl⟩
    · obtain ⟨e1, e2, e3, q1, q2, q3, q4, hn, hlo, hhi⟩ := clsB_is h
      have HR := Lib.hid (HC.out 0 128 191 h128 hn hlo hhi)
      have HW1 := Lib.hid (fun wx => within_is e1 wx)
      have HW2 := Lib.hid (fun wx => within_is e2 wx)
      have HW3 := Lib.hid (fun wx => within_is e3 wx)
      clear HC HZ h h128 hn hlo hhi e1 e2 e3
      have HQ : Hid (r = 0) := Lib.hid (by rw [HR.out, if_pos (.inl rfl)])
      clear HR
      go_enter Tryz.func105, Tryz.ntmps105
      go_wp2_with fail
      refine (HW1.out _).mono ?_
      rintro x wy ⟨rfl, rfl⟩
      go_wp2_with fail
      refine (HW2.out _).mono ?_
      rintro x wy ⟨rfl, rfl⟩
      go_wp2_with fail
      refine (HW3.out _).mono ?_
      rintro x wy ⟨rfl, rfl⟩
      go_wp2
      go_ret
      exact ⟨by rw [HQ.out]; rfl, rfl⟩
end Js
end Go.Proofs.YtlfeddgpfaigkaaGreatDoor
namespace Go.Proofs.YtlfeddgpfaigkaaGreatDoor
open Go.RowKit
namespace Js
/-- The first wrong byte; -1: none is. -/
def wrongAt (s : List UInt8) : Int := match wrong s with
  | none => -1
  | some r => (s.length : Int) - r.length
theorem char_fits (s : List UInt8) : char s ≤ s.length := by
  cases s with
  | nil => simp [char]
  | cons c r =>
    by_cases h : c.toNat < 128
    · rw [char_ascii h, List.length_cons]; omega
    · rw [char_cls h]
      unfold charG
      split
      · omega
      · rename_i hh
        split
        · rw [List.length_cons]
          by_cases hl : r.length + 1 < clsN c
          · exact absurd (.inr (.inl hl)) hh
          · omega
        · omega
theorem wrong_drop {s : List UInt8} {i : Nat} (hi : i < s.length) : wrong (s.drop i) = if char (s.drop i) = 0 then some (s.drop i) else wrong (s.drop (i + char (s.drop i))) := by
  rw [← List.drop_drop]
  cases e : s.drop i with
  | nil => have := congrArg List.length e; rw [List.length_drop] at this; simp at this; omega
  | cons c r => exact wrong_eq c r
set_option maxHeartbeats 1600000 in
set_option maxRecDepth 100000 in
theorem wrongR_any (s : List UInt8) (w : World) (hs : s.length ≤ 140737488355328) :
    Calls Tryz.prog 45 #[.string ⟨s.toArray⟩] w fun x w' => x = .returned (.int .i64 (wrongAt s)) ∧ w = w' := by
  go_enter Tryz.func45, Tryz.ntmps45
  go_wp2_with fail
  go_loopw [3] (fun i wr => ∃ j : Nat, j ≤ s.length ∧ i = .int .i64 j ∧ Hid (wrong s = wrong (s.drop j)) ∧ wr = w) (fun i _ => s.length - (intOf i).toNat)
  case atStart => exact ⟨0, by omega, rfl, Lib.hid (by simp), rfl⟩
  case round =>
    obtain ⟨j, hj, rfl, HE, hwr⟩ := hrel
    subst hwr
    by_cases hlt : j < s.length
    · have HC := Lib.hid (charR_any s j wr hlt hs)
      have HD := Lib.hid (wrong_drop hlt)
      have hfit : char (s.drop j) ≤ s.length - j := by have := char_fits (s.drop j); rwa [List.length_drop] at this
      go_wp2_with fail
      refine HC.out.mono ?_
      rintro x wy ⟨rfl, rfl⟩
      clear HC
      by_cases hz : char (s.drop j) = 0
      · have HR : Hid (wrongAt s = j) := Lib.hid (by
          unfold wrongAt
          rw [HE.out, HD.out, if_pos hz]
          show (s.length : Int) - ((s.drop j).length : Int) = j
          rw [List.length_drop]
          omega)
        clear HD HE hfit
        rw [hz]
        go_wp2
        go_ret
        exact ⟨by rw [HR.out]; rfl, rfl⟩
      · have H1 : Hid (wrong s = wrong (s.drop (j + char (s.drop j)))) := Lib.hid (by rw [HE.out, HD.out, if_neg hz])
        have HZ := Lib.hid hz
        clear HD HE hz
        generalize char (s.drop j) = n at hfit H1 HZ ⊢
        have q1 : ((n : Int) == 0) = false := by rw [beq_eq_false_iff_ne]; have := HZ.out; omega
        go_wp2_with fail
        go_roundw
        case rel => exact ⟨j + n, by omega, by go_num, H1, trivial⟩
        case measure =>
          have := HZ.out
          show s.length - ((j : Int) + n).toNat < s.length - ((j : Int)).toNat
          omega
    · have HR : Hid (wrongAt s = -1) := Lib.hid (by
        unfold wrongAt
        rw [HE.out, List.drop_of_length_le (by omega)]
        rfl)
      clear HE
      go_wp2_with fail
      go_ret
      exact ⟨by rw [HR.out]; rfl, rfl⟩
end Js
end Go.Proofs.YtlfeddgpfaigkaaGreatDoor
namespace Go.Proofs.YtlfeddgpfaigkaaGreatDoor
open Go.RowKit
namespace Js
theorem dd_more {v : Nat} (h : 10 ≤ v) : Lib.decDigits v = Lib.decDigits (v / 10) ++ [UInt8.ofNat (48 + v % 10)] := by rw [Lib.decDigits, dif_neg (by omega)]
theorem dd_ne (v : Nat) : Lib.decDigits v ≠ [] := by
  by_cases h : v < 10
  · rw [Lib.decDigits_one h]; simp
  · rw [dd_more (by omega)]; simp
/-- What is left of a number, and the digits behind. -/
def DecI (m v : Nat) (t : List UInt8) : Prop := (t = [] ∧ v = m) ∨ (t ≠ [] ∧ (if v = 0 then t else Lib.decDigits v ++ t) = Lib.decDigits m)
theorem DecI.step {m v : Nat} {t : List UInt8} (h : DecI m v t) (hg : 0 < v ∨ t = []) : DecI m (v / 10) (UInt8.ofNat (48 + v % 10) :: t) := by
  refine .inr ⟨by simp, ?_⟩
  have key : (if v / 10 = 0 then UInt8.ofNat (48 + v % 10) :: t else Lib.decDigits (v / 10) ++ UInt8.ofNat (48 + v % 10) :: t) = Lib.decDigits v ++ t := by
    by_cases hv : v < 10
    · rw [if_pos (by omega), Lib.decDigits_one hv, Nat.mod_eq_of_lt hv]; rfl
    · rw [if_neg (by omega), dd_more (v := v) (by omega), List.append_assoc]; rfl
  rw [key]
  rcases h with ⟨rfl, rfl⟩ | ⟨ht, he⟩
  · rw [List.append_nil]
  · rcases hg with h0 | h0
    · rw [if_neg (by omega)] at he; exact he
    · exact absurd h0 ht
theorem DecI.done {m : Nat} {t : List UInt8} (h : DecI m 0 t) (ht : t ≠ []) : t = Lib.decDigits m := by
  rcases h with ⟨h0, _⟩ | ⟨_, he⟩
  · exact absurd h0 ht
  · rw [if_pos rfl] at he; exact he
theorem DecI.len {m v : Nat} {t : List UInt8} (h : DecI m v t) : t.length ≤ (Lib.decDigits m).length := by
  rcases h with ⟨rfl, _⟩ | ⟨_, he⟩
  · simp
  · rw [← he]
    split
    · exact Nat.le_refl _
    · rw [List.length_append]; omega
/-- One for the empty text. -/
def emp : Value → Nat
  | .string b => 1 - b.size
  | _ => 0
set_option maxHeartbeats 1600000 in
set_option maxRecDepth 100000 in
theorem decimalR_any (n : Int) (w : World) (h1 : -9223372036854775808 ≤ n) (h2 : n ≤ 9223372036854775807) :
    Calls Tryz.prog 85 #[.int .i64 n] w fun x w' => x = .returned (.string ⟨(decI n).toArray⟩) ∧ Below w.heap.size w w' := by
  by_cases hn : n < 0
  · obtain ⟨m, rfl⟩ : ∃ m : Nat, n = -(m : Int) := ⟨(-n).toNat, by omega⟩
    have l1 : (-(m : Int) < 0) = True := eq_true hn
    have hm1 : 1 ≤ m := by omega
    have l3 : (0 < (m : Int)) = True := eq_true (by omega)
    have l4 : ((m : Int) ≤ 0) = False := eq_false (by omega)
    have hw1 : IntKind.u64.wrap (-(m : Int)) = 18446744073709551616 - m := by rw [IntKind.wrap_u64]; omega
    have hw2 : IntKind.u64.wrap (-(18446744073709551616 - (m : Int))) = m := by rw [IntKind.wrap_u64]; omega
    have HD : Hid (decI (-(m : Int)) = 45 :: Lib.decDigits m) := Lib.hid (by unfold decI Lib.itoa; rw [if_pos hn]; simp)
    have HL : Hid ((Lib.decDigits m).length ≤ 20) := Lib.hid (by rw [Lib.decDigits_length]; exact Lib.nDigits_le20 m (by omega))
    go_enter Tryz.func85, Tryz.ntmps85
    go_wp2_with fail
    go_loopw [3, 4] (fun u s wr => ∃ (v : Nat) (t : List UInt8), v ≤ m ∧ u = .int .u64 v ∧ s = .string ⟨t.toArray⟩ ∧ Hid (DecI m v t) ∧ Hid (Below w.heap.size w wr)) (fun u s _ => (intOf u).toNat + emp s)
    case atStart => exact ⟨m, [], by omega, rfl, rfl, Lib.hid (.inl ⟨rfl, rfl⟩), Lib.hid (Below.refl _ _)⟩
    case round =>
      obtain ⟨v, t, hv, rfl, rfl, HI, HB⟩ := hrel
      have hlen : t.length ≤ 20 := Nat.le_trans HI.out.len HL.out
      have HCV := Lib.hid (run_convert_reads (P := Tryz.prog) Tryz.underlying74 Tryz.underlying5 Tryz.underlying9 1 (l := [UInt8.ofNat (48 + v % 10)]) (by
        have e : Lib.byteCells [UInt8.ofNat (48 + v % 10)] = [.int .u8 (48 + (v : Int) % 10)] := by simp [Lib.byteCells]; omega
        rw [e]
        exact Reads.of_block (n := 1) (size := 1) (heap_alloc_new wr (.cells #[.int .u8 (48 + (v : Int) % 10)] 5)) rfl))
      have hadd : (⟨#[UInt8.ofNat (48 + v % 10)]⟩ : ByteArray) ++ ⟨t.toArray⟩ = ⟨(UInt8.ofNat (48 + v % 10) :: t).toArray⟩ := by apply ByteArray.ext; simp
      by_cases hv0 : 0 < v
      · have l2 : (0 < (v : Int)) = True := eq_true (by omega)
        have H1 := Lib.hid (HI.out.step (.inl hv0))
        have HB1 := Lib.hid (HB.out.alloc HB.out.size (.cells #[.int .u8 (48 + (v : Int) % 10)] 5))
        have hcv := HCV.out
        generalize UInt8.ofNat (48 + v % 10) = d at hcv hadd H1
        clear HI HCV
        go_wp2_with fail
        go_roundw
        case rel => exact ⟨v / 10, d :: t, by omega, by push_cast; rfl, rfl, H1, HB1⟩
        case measure =>
          show ((v : Int) / 10).toNat + (1 - (⟨(d :: t).toArray⟩ : ByteArray).size) < ((v : Int)).toNat + (1 - (⟨t.toArray⟩ : ByteArray).size)
          simp only [ByteArray.size, List.size_toArray, List.length_cons]
          omega
      · have l2 : (0 < (v : Int)) = False := eq_false (by omega)
        by_cases ht : t = []
        · have c1 : t.isEmpty = true := by rw [ht]; rfl
          have hl0 : t.length = 0 := by rw [ht]; rfl
          have HL0 := Lib.hid hl0
          clear hl0
          have H1 := Lib.hid (HI.out.step (.inr ht))
          have HB1 := Lib.hid (HB.out.alloc HB.out.size (.cells #[.int .u8 (48 + (v : Int) % 10)] 5))
          have hcv := HCV.out
          generalize UInt8.ofNat (48 + v % 10) = d at hcv hadd H1
          clear HI HCV ht
          go_wp2_with fail
          go_roundw
          case rel => exact ⟨v / 10, d :: t, by omega, by push_cast; rfl, rfl, H1, HB1⟩
          case measure =>
            show ((v : Int) / 10).toNat + (1 - (⟨(d :: t).toArray⟩ : ByteArray).size) < ((v : Int)).toNat + (1 - (⟨t.toArray⟩ : ByteArray).size)
            simp only [ByteArray.size, List.size_toArray, List.length_cons]
            have := HL0.out; omega
        · have c1 : t.isEmpty = false := by cases t with
            | nil => exact absurd rfl ht
            | cons _ _ => rfl
          have HT : Hid (t = Lib.decDigits m) := Lib.hid (by
            have h := HI.out
            obtain rfl : v = 0 := by omega
            exact h.done ht)
          clear HI HCV hadd ht
          have hadd2 : (⟨#[45]⟩ : ByteArray) ++ ⟨t.toArray⟩ = ⟨(45 :: t).toArray⟩ := by apply ByteArray.ext; simp
          go_wp2
          go_ret
          exact ⟨by rw [HD.out, ← HT.out]; rfl, HB.out⟩
  · have l1 : (n < 0) = False := eq_false hn
    have hw1 : IntKind.u64.wrap n = n := IntWalk.u64_in _ (by omega)
    obtain ⟨m, rfl⟩ : ∃ m : Nat, n = m := ⟨n.toNat, by omega⟩
    have HD : Hid (decI (m : Int) = Lib.decDigits m) := Lib.hid (by unfold decI Lib.itoa; rw [if_neg hn]; rfl)
    have HL : Hid ((Lib.decDigits m).length ≤ 20) := Lib.hid (by rw [Lib.decDigits_length]; exact Lib.nDigits_le20 m (by omega))
    go_enter Tryz.func85, Tryz.ntmps85
    go_wp2_with fail
    go_loopw [3, 4] (fun u s wr => ∃ (v : Nat) (t : List UInt8), v ≤ m ∧ u = .int .u64 v ∧ s = .string ⟨t.toArray⟩ ∧ Hid (DecI m v t) ∧ Hid (Below w.heap.size w wr)) (fun u s _ => (intOf u).toNat + emp s)
    case atStart => exact ⟨m, [], by omega, rfl, rfl, Lib.hid (.inl ⟨rfl, rfl⟩), Lib.hid (Below.refl _ _)⟩
    case round =>
      obtain ⟨v, t, hv, rfl, rfl, HI, HB⟩ := hrel
      have hlen : t.length ≤ 20 := Nat.le_trans HI.out.len HL.out
      have HCV := Lib.hid (run_convert_reads (P := Tryz.prog) Tryz.underlying74 Tryz.underlying5 Tryz.underlying9 1 (l := [UInt8.ofNat (48 + v % 10)]) (by
        have e : Lib.byteCells [UInt8.ofNat (48 + v % 10)] = [.int .u8 (48 + (v : Int) % 10)] := by simp [Lib.byteCells]; omega
        rw [e]
        exact Reads.of_block (n := 1) (size := 1) (heap_alloc_new wr (.cells #[.int .u8 (48 + (v : Int) % 10)] 5)) rfl))
      have hadd : (⟨#[UInt8.ofNat (48 + v % 10)]⟩ : ByteArray) ++ ⟨t.toArray⟩ = ⟨(UInt8.ofNat (48 + v % 10) :: t).toArray⟩ := by apply ByteArray.ext; simp
      by_cases hv0 : 0 < v
      · have l2 : (0 < (v : Int)) = True := eq_true (by omega)
        have H1 := Lib.hid (HI.out.step (.inl hv0))
        have HB1 := Lib.hid (HB.out.alloc HB.out.size (.cells #[.int .u8 (48 + (v : Int) % 10)] 5))
        have hcv := HCV.out
        generalize UInt8.ofNat (48 + v % 10) = d at hcv hadd H1
        clear HI HCV
        go_wp2_with fail
        go_roundw
        case rel => exact ⟨v / 10, d :: t, by omega, by push_cast; rfl, rfl, H1, HB1⟩
        case measure =>
          show ((v : Int) / 10).toNat + (1 - (⟨(d :: t).toArray⟩ : ByteArray).size) < ((v : Int)).toNat + (1 - (⟨t.toArray⟩ : ByteArray).size)
          simp only [ByteArray.size, List.size_toArray, List.length_cons]
          omega
      · have l2 : (0 < (v : Int)) = False := eq_false (by omega)
        by_cases ht : t = []
        · have c1 : t.isEmpty = true := by rw [ht]; rfl
          have hl0 : t.length = 0 := by rw [ht]; rfl
          have HL0 := Lib.hid hl0
          clear hl0
          have H1 := Lib.hid (HI.out.step (.inr ht))
          have HB1 := Lib.hid (HB.out.alloc HB.out.size (.cells #[.int .u8 (48 + (v : Int) % 10)] 5))
          have hcv := HCV.out
          generalize UInt8.ofNat (48 + v % 10) = d at hcv hadd H1
          clear HI HCV ht
          go_wp2_with fail
          go_roundw
          case rel => exact ⟨v / 10, d :: t, by omega, by push_cast; rfl, rfl, H1, HB1⟩
          case measure =>
            show ((v : Int) / 10).toNat + (1 - (⟨(d :: t).toArray⟩ : ByteArray).size) < ((v : Int)).toNat + (1 - (⟨t.toArray⟩ : ByteArray).size)
            simp only [ByteArray.size, List.size_toArray, List.length_cons]
            have := HL0.out; omega
        · have c1 : t.isEmpty = false := by cases t with
            | nil => exact absurd rfl ht
            | cons _ _ => rfl
          have HT : Hid (t = Lib.decDigits m) := Lib.hid (by
            have h := HI.out
            obtain rfl : v = 0 := by omega
            exact h.done ht)
          clear HI HCV hadd ht
          go_wp2
          go_ret
          exact ⟨by rw [HD.out, ← HT.out]; rfl, HB.out⟩
end Js
end Go.Proofs.YtlfeddgpfaigkaaGreatDoor
namespace Go.Proofs.YtlfeddgpfaigkaaGreatDoor
open Go.RowKit
namespace Js
theorem wrong_le : ∀ (n : Nat) (s r : List UInt8), s.length ≤ n → wrong s = some r → r.length ≤ s.length := by
  intro n
  induction n with
  | zero => intro s r h e; obtain rfl := List.length_eq_zero_iff.1 (Nat.le_zero.1 h); cases e
  | succ n ih =>
    intro s r h e
    cases s with
    | nil => cases e
    | cons c s =>
      rw [wrong_eq] at e
      by_cases hc : char (c :: s) = 0
      · rw [if_pos hc] at e; cases e; exact Nat.le_refl _
      · rw [if_neg hc] at e
        have := ih _ r (by rw [List.length_drop]; rw [List.length_cons] at h ⊢; omega) e
        rw [List.length_drop] at this
        omega
theorem wrongAt_none {s : List UInt8} (h : wrong s = none) : wrongAt s = -1 := by unfold wrongAt; rw [h]
theorem wrongAt_some {s : List UInt8} (h : wrong s ≠ none) : 0 ≤ wrongAt s := by
  cases e : wrong s with
  | none => exact absurd e h
  | some r =>
    have := wrong_le _ s r (Nat.le_refl _) e
    unfold wrongAt
    rw [e]
    show 0 ≤ (s.length : Int) - r.length
    omega
set_option maxHeartbeats 3200000 in
set_option maxRecDepth 100000 in
theorem ownR_any (d : Nat) (h : Hd) (k : F) (iv kv : Value) (S : Nat → Prop) (w : World) (hd : d ≤ 1000) (hfit : Fit h) (htv : TV encJ w S h k (jcells h iv kv)) (hS : ∀ b, S b → b < w.heap.size) :
    Calls Tryz.prog 84 #[.agg #[.int .i64 h.kind, .int .i64 h.num, .string ⟨h.text.toArray⟩, iv, kv], .int .i64 d] w fun x w' => x = .returned (.int .i64 (own d h k.len : Nat)) ∧ Below w.heap.size w w' := by
  obtain ⟨A1, c1, A2, c2, us, rfl, rfl, hkl, hnl, _, _, hrk⟩ := tv_parts htv
  obtain ⟨wz, hwz⟩ : ∃ wz, wz = w.alloc (.cells #[.int .i64 h.kind, .int .i64 h.num, .string ⟨h.text.toArray⟩, .slice A1 k.len c1, .slice A2 h.keys.length c2] 25) := ⟨_, rfl⟩
  have HBA : Hid (Blk wz w.heap.size 25 #[.int .i64 h.kind, .int .i64 h.num, .string ⟨h.text.toArray⟩, .slice A1 k.len c1, .slice A2 h.keys.length c2]) := Lib.hid (by rw [hwz]; exact Blk.new _ _ _)
  have HZ : Hid (Below w.heap.size w wz) := Lib.hid (by rw [hwz]; exact (Below.refl _ _).alloc (Nat.le_refl _) _)
  have HRK : Hid (Reads wz wz.heap.size 1 A2 h.keys.length (tx h.keys)) := Lib.hid (((hrk.reads hS).below HZ.out).more HZ.out.size)
  have HFIT := Lib.hid hfit
  clear htv hS hrk hfit
  have d0 := HBA.out.cell 0
  have d2 := HBA.out.cell 2
  have d3 := HBA.out.cell 3
  have d4 := HBA.out.cell 4
  go_enter Tryz.func84, Tryz.ntmps84
  go_upto_region 1 with fail
  rw [← hwz]
  clear hwz
  by_cases g1 : 32 < d
  · have l1 : (32 < (d : Int)) = True := eq_true (by omega)
    have HR : Hid (own d h k.len = 5) := Lib.hid (by unfold own; rw [if_pos g1])
    go_wp2_with fail
    go_ret
    exact ⟨by rw [HR.out]; rfl, HZ.out⟩
  · have l1 : (32 < (d : Int)) = False := eq_false (by omega)
    by_cases g2 : h.kind < 0 ∨ 6 < h.kind ∨ (h.kind = 6 ∧ h.keys.length ≠ k.len)
    · have HR : Hid (own d h k.len = 14) := Lib.hid (by unfold own; rw [if_neg g1, if_pos g2])
      rcases g2 with g2 | g2 | ⟨g2, g3⟩
      · have l2 : (h.kind < 0) = True := eq_true g2
        go_wp2_with fail
        go_ret
        exact ⟨by rw [HR.out]; rfl, HZ.out⟩
      · have l2 : (h.kind < 0) = False := eq_false (by omega)
        have l3 : (6 < h.kind) = True := eq_true g2
        go_wp2_with fail
        go_ret
        exact ⟨by rw [HR.out]; rfl, HZ.out⟩
      · have l2 : (h.kind < 0) = False := eq_false (by omega)
        have l3 : (6 < h.kind) = False := eq_false (by omega)
        have l4 : (h.kind == 6) = true := by rw [beq_iff_eq]; exact g2
        have l5 : ((h.keys.length : Int) == (k.len : Int)) = false := by rw [beq_eq_false_iff_ne]; omega
        clear g2
        go_wp2_with fail
        go_ret
        exact ⟨by rw [HR.out]; rfl, HZ.out⟩
    · have l2 : (h.kind < 0) = False := eq_false (fun e => g2 (.inl e))
      have l3 : (6 < h.kind) = False := eq_false (fun e => g2 (.inr (.inl e)))
      have HG := Lib.hid g1
      have HG2 := Lib.hid g2
      have HOW : Hid (own d h k.len = if h.kind = 4 ∧ wrong h.text ≠ none then 6 else if h.kind ≠ 6 then 0 else if ∃ x ∈ h.keys, wrong x ≠ none then 6 else if dupL h.keys = true then 11 else 0) := Lib.hid (by
        unfold own
        rw [if_neg g1, if_neg g2])
      by_cases g6 : h.kind = 6
      · have l4 : (h.kind == 6) = true := by rw [beq_iff_eq]; exact g6
        have l6 : (h.kind == 4) = false := by rw [beq_eq_false_iff_ne]; omega
        have l5 : ((h.keys.length : Int) == (k.len : Int)) = true := by
          rw [beq_iff_eq]
          have : h.keys.length = k.len := Decidable.byContradiction fun e => HG2.out (.inr (.inr ⟨g6, e⟩))
          omega
        have HO2 : Hid (own d h k.len = if ∃ x ∈ h.keys, wrong x ≠ none then 6 else if dupL h.keys = true then 11 else 0) := Lib.hid (by
          rw [HOW.out, if_neg (fun e => by have := e.1; omega), if_neg (fun e => e g6)])
        have l8 : (h.kind != 6) = false := by unfold bne; rw [l4]; rfl
        have l9 : ((h.keys.length : Int) != (k.len : Int)) = false := by unfold bne; rw [l5]; rfl
        clear g1 g2 g6
        go_wp2_with fail
        go_loopw [5] (fun i wr => ∃ j : Nat, j ≤ h.keys.length ∧ i = .int .i64 j ∧ Hid (∀ q, q < j → wrong (h.keys.getD q []) = none) ∧ wr = wz) (fun i _ => h.keys.length - (intOf i).toNat)
        case atStart => exact ⟨0, by omega, rfl, Lib.hid (fun q hq => absurd hq (by omega)), rfl⟩
        case round =>
          obtain ⟨j, hj, rfl, HN, hwr⟩ := hrel
          subst hwr
          by_cases hlt : j < h.keys.length
          · obtain ⟨ad, u, rfl, _, hu, hc⟩ := HRK.out.at_ hlt
            obtain rfl := tx_get hu hlt
            have HMEM : Hid (h.keys.getD j [] ∈ h.keys) := Lib.hid (by simp [List.getD, List.getElem?_eq_getElem hlt])
            have HS : Hid (∀ t, t = h.keys.getD j [] → wrong t = none → ∀ q, q < j + 1 → wrong (h.keys.getD q []) = none) := Lib.hid (fun t ht hw q hq => by
              rcases Nat.lt_or_ge q j with h1 | h1
              · exact HN.out q h1
              · obtain rfl : q = j := by omega
                rw [← ht]; exact hw)
            clear hu
            obtain ⟨t, ht⟩ : ∃ t, t = h.keys.getD j [] := ⟨_, rfl⟩
            rw [← ht] at hc HMEM
            have HT := Lib.hid ht
            clear ht
            have htl : t.length ≤ 4398046511104 := HFIT.out.2 t HMEM.out
            have HWR := Lib.hid (wrongR_any t wr (by omega))
            by_cases g5 : wrong t = none
            · have hq := wrongAt_none g5
              have H1 := Lib.hid (HS.out t HT.out g5)
              clear g5
              go_wp2_with fail
              refine HWR.out.mono ?_
              rintro x wy ⟨rfl, rfl⟩
              generalize wrongAt t = z at hq ⊢
              have l7 : (0 ≤ z) = False := eq_false (by omega)
              clear hq
              go_wp2_with fail
              go_roundw
              case rel => exact ⟨j + 1, by omega, by go_num, H1, trivial⟩
              case measure => simp [intOf]; omega
            · have hq := wrongAt_some g5
              have HR : Hid (own d h k.len = 6) := Lib.hid (by rw [HO2.out, if_pos ⟨t, HMEM.out, g5⟩])
              clear g5
              go_wp2_with fail
              refine HWR.out.mono ?_
              rintro x wy ⟨rfl, rfl⟩
              generalize wrongAt t = z at hq ⊢
              have l7 : (0 ≤ z) = True := eq_true hq
              go_wp2
              go_ret
              exact ⟨by rw [HR.out]; rfl, HZ.out⟩
          · have HNX : Hid (¬ ∃ x, x ∈ h.keys ∧ wrong x ≠ none) := Lib.hid (by
              rintro ⟨x, hx, hw⟩
              obtain ⟨q, hq, rfl⟩ := List.getElem_of_mem hx
              exact hw (by have := HN.out q (by omega); simpa [List.getD, List.getElem?_eq_getElem hq] using this))
            have HTW := Lib.hid (twice_any h.keys A2 h.keys.length c2 wr HRK.out (by omega))
            have HO3 : Hid (own d h k.len = if dupL h.keys = true then 11 else 0) := Lib.hid (by rw [HO2.out, if_neg HNX.out])
            clear HNX
            generalize dupL h.keys = b at HTW HO3
            go_wp2_with fail
            refine HTW.out.mono ?_
            rintro x wy ⟨rfl, hb⟩
            have HZ2 : Hid (Below w.heap.size w wy) := Lib.hid (HZ.out.trans (hb.mono HZ.out.size))
            clear hb HTW
            cases b
            · have HR : Hid (own d h k.len = 0) := Lib.hid (by rw [HO3.out]; rfl)
              go_wp2
              go_ret
              exact ⟨by rw [HR.out]; rfl, HZ2.out⟩
            · have HR : Hid (own d h k.len = 11) := Lib.hid (by rw [HO3.out]; rfl)
              go_wp2
              go_ret
              exact ⟨by rw [HR.out]; rfl, HZ2.out⟩
      · have l4 : (h.kind == 6) = false := by rw [beq_eq_false_iff_ne]; exact g6
        by_cases g4 : h.kind = 4
        · have l6 : (h.kind == 4) = true := by rw [beq_iff_eq]; exact g4
          have HWR := Lib.hid (wrongR_any h.text wz (by have := HFIT.out.1; omega))
          by_cases g5 : wrong h.text = none
          · have HR : Hid (own d h k.len = 0) := Lib.hid (by rw [HOW.out, if_neg (fun e => e.2 g5), if_pos g6])
            have hq := wrongAt_none g5
            clear g1 g2 g6 g4 g5
            go_wp2_with fail
            refine HWR.out.mono ?_
            rintro x wy ⟨rfl, rfl⟩
            rw [hq]
            go_wp2
            go_ret
            exact ⟨by rw [HR.out]; rfl, HZ.out⟩
          · have HR : Hid (own d h k.len = 6) := Lib.hid (by rw [HOW.out, if_pos ⟨g4, g5⟩])
            have hq := wrongAt_some g5
            clear g1 g2 g6 g4 g5
            go_wp2_with fail
            refine HWR.out.mono ?_
            rintro x wy ⟨rfl, rfl⟩
            generalize wrongAt h.text = z at hq ⊢
            have l7 : (0 ≤ z) = True := eq_true hq
            go_wp2
            go_ret
            exact ⟨by rw [HR.out]; rfl, HZ.out⟩
        · have l6 : (h.kind == 4) = false := by rw [beq_eq_false_iff_ne]; exact g4
          have HR : Hid (own d h k.len = 0) := Lib.hid (by rw [HOW.out, if_neg (fun e => g4 e.1), if_pos g6])
          clear g1 g2 g6 g4
          go_wp2_with fail
          go_ret
          exact ⟨by rw [HR.out]; rfl, HZ.out⟩
end Js
end Go.Proofs.YtlfeddgpfaigkaaGreatDoor
namespace Go.Proofs.YtlfeddgpfaigkaaGreatDoor
open Go.RowKit
namespace Js
def WrgC (n : Nat) : Prop := ∀ (d : Nat) (h : Hd) (k : F) (iv kv : Value) (S : Nat → Prop) (w : World), k.sz ≤ n → d ≤ 33 → Fit h → k.All Fit → TV encJ w S h k (jcells h iv kv) → (∀ b, S b → b < w.heap.size) →
  Calls Tryz.prog 32 #[.agg #[.int .i64 h.kind, .int .i64 h.num, .string ⟨h.text.toArray⟩, iv, kv], .int .i64 d] w fun x w' => x = .returned (.int .i64 (wrongs d h k : Nat)) ∧ Below w.heap.size w w'
set_option maxHeartbeats 3200000 in
set_option maxRecDepth 100000 in
theorem wrgs_step (n : Nat) (hC : ∀ m, m < n → WrgC m) : WrgC n := by
  intro d h k iv kv S w hk hd hfit hall htv hS
  have HOWN : Hid (∀ wx, Below w.heap.size w wx → Calls Tryz.prog 84 #[.agg #[.int .i64 h.kind, .int .i64 h.num, .string ⟨h.text.toArray⟩, iv, kv], .int .i64 d] wx fun x w' => x = .returned (.int .i64 (own d h k.len : Nat)) ∧ Below wx.heap.size wx w') := Lib.hid (fun wx hb => ownR_any d h k iv kv S wx (by omega) hfit (htv.kept fun p hp => hb.cell (hS _ hp)) (fun b hb' => by have := hS b hb'; have := hb.size; omega))
  obtain ⟨A1, c1, A2, c2, us, rfl, rfl, hlk, hlq, hr1, htr, hr2⟩ := tv_parts htv
  obtain ⟨nk, hnk⟩ : ∃ nk, nk = h.keys.length := ⟨_, rfl⟩
  obtain ⟨ni, hni⟩ : ∃ ni, ni = k.len := ⟨_, rfl⟩
  rw [← hni] at hr1 hlk ⊢
  rw [← hnk] at hr2 hlq ⊢
  rw [← hni, ← hnk] at HOWN
  obtain ⟨wz, hwz⟩ : ∃ wz, wz = w.alloc (.cells #[.int .i64 h.kind, .int .i64 h.num, .string ⟨h.text.toArray⟩, .slice A1 ni c1, .slice A2 nk c2] 25) := ⟨_, rfl⟩
  have HBA : Hid (Blk wz w.heap.size 25 #[.int .i64 h.kind, .int .i64 h.num, .string ⟨h.text.toArray⟩, .slice A1 ni c1, .slice A2 nk c2]) := Lib.hid (by rw [hwz]; exact Blk.new _ _ _)
  have HZ : Hid (Below w.heap.size w wz) := Lib.hid (by rw [hwz]; exact (Below.refl _ _).alloc (Nat.le_refl _) _)
  have HC := Lib.hid hC
  have HK := Lib.hid hk
  have HAL := Lib.hid hall
  have HD := Lib.hid hd
  have HS := Lib.hid hS
  have HTR := Lib.hid htr
  have HR1 := Lib.hid (hr1.reads hS)
  have HNI := Lib.hid hni
  have HWR : Hid (wrongs d h k = if own d h ni ≠ 0 then own d h ni else if 5 ≤ h.kind then wrongsF (d + 1) k else 0) := Lib.hid (by rw [hni]; rfl)
  have HD32 : Hid (own d h ni = 0 → d ≤ 32) := Lib.hid (fun e => by have := (own_zero e).1; omega)
  have HP := Lib.hid (HOWN.out wz HZ.out)
  clear hC hk hS htr hr1 hr2 hni htv hall hd hfit HOWN hnk
  have d0 := HBA.out.cell 0
  have d1 := HBA.out.cell 1
  have d2 := HBA.out.cell 2
  have d3 := HBA.out.cell 3
  have d4 := HBA.out.cell 4
  go_enter Tryz.func32, Tryz.ntmps32
  go_wp2_with fail
  rw [← hwz]
  clear hwz
  refine HP.out.mono ?_
  rintro x w1 ⟨rfl, hb1⟩
  have HB1 := Lib.hid hb1
  clear hb1 HP d0 d1 d2 d3 d4
  by_cases h0 : own d h ni = 0
  · have HW0 : Hid (wrongs d h k = if 5 ≤ h.kind then wrongsF (d + 1) k else 0) := Lib.hid (by rw [HWR.out, if_neg (by simp [h0])])
    have hd32 := HD32.out h0
    rw [h0]
    clear h0 HWR HD32
    go_wp2_with fail
    go_loopw [5, 6] (fun e i wr => ∃ (q : Nat), q ≤ ni ∧ i = .int .i64 q ∧ e = .int .i64 0 ∧ Hid (Below wz.heap.size wz wr) ∧ Hid (0 < q → 5 ≤ h.kind ∧ wrongsF (d + 1) (k.take q) = 0)) (fun _ i _ => ni - (intOf i).toNat)
    case atStart => exact ⟨0, by omega, rfl, rfl, HB1, Lib.hid (fun h => absurd h (by omega))⟩
    case round =>
      clear HB1
      obtain ⟨q, hq, rfl, rfl, HB, HW⟩ := hrel
      have HBB := Lib.hid (HBA.out.below HB.out HBA.out.lt)
      have HBE : Hid (Below w.heap.size w wr) := Lib.hid (HZ.out.trans (HB.out.mono HZ.out.size))
      have d0 := HBB.out.cell 0
      have d3 := HBB.out.cell 3
      by_cases hlt2 : q < ni
      · by_cases h5 : 5 ≤ h.kind
        · have l5 : (5 ≤ h.kind) = True := eq_true h5
          obtain ⟨ad, rfl, hab, hcs⟩ := HR1.out.2 (by omega)
          obtain ⟨h0, kk, he, hsz, htv⟩ := HTR.out.at_ (i := q) (by have := HNI.out; omega)
          obtain ⟨A5, c5, A6, c6, us2, ecs, htv2⟩ := htv
          have hcs' := fun j u hu => (HBE.out.cell (show (ad.add j).block < w.heap.size by rw [block_of_add]; exact hab)).trans (hcs j u hu)
          obtain ⟨x0, x1, x2, x3, x4⟩ := cells5 hcs' ecs
          have htv3 : TV encJ w S h0 kk (jcells h0 (.slice A5 kk.len c5) (.slice A6 h0.keys.length c6)) := ⟨A5, c5, A6, c6, us2, rfl, htv2⟩
          obtain ⟨y1, y2⟩ := All_at HAL.out he
          have HCL : Hid (Calls Tryz.prog 32 #[.agg #[.int .i64 h0.kind, .int .i64 h0.num, .string ⟨h0.text.toArray⟩, .slice A5 kk.len c5, .slice A6 h0.keys.length c6], .int .i64 ((d : Int) + 1)] wr fun x w' => x = .returned (.int .i64 (wrongs (d + 1) h0 kk : Nat)) ∧ Below wr.heap.size wr w') := Lib.hid (by
            have := HC.out kk.sz (by have := HK.out; omega) (d + 1) h0 kk (.slice A5 kk.len c5) (.slice A6 h0.keys.length c6) S wr (Nat.le_refl _) (by omega) y1 y2 (htv3.kept fun p hp => HBE.out.cell (HS.out _ hp)) (fun b h => by have := HS.out b h; have := HBE.out.size; omega)
            push_cast at this
            exact this)
          have HTK : Hid (wrongsF (d + 1) (k.take q) = 0) := Lib.hid (by
            rcases Nat.eq_zero_or_pos q with h1 | h1
            · subst h1; cases k <;> rfl
            · exact (HW.out h1).2)
          have HT1 := Lib.hid (wrongsF_take he HTK.out)
          have HT2 := Lib.hid (wrongsF_bad he HTK.out)
          clear he hsz htv2 htv3 ecs hcs hcs' hab y1 y2 HW HTK
          go_wp2_with fail
          refine HCL.out.mono ?_
          rintro x w4 ⟨rfl, hb4⟩
          have HB4 : Hid (Below wz.heap.size wz w4) := Lib.hid (HB.out.trans (hb4.mono HB.out.size))
          clear hb4 HCL x0 x1 x2 x3 x4 d3 d0
          by_cases hz : wrongs (d + 1) h0 kk = 0
          · have H1 : Hid (0 < q + 1 → 5 ≤ h.kind ∧ wrongsF (d + 1) (k.take (q + 1)) = 0) := Lib.hid (fun _ => ⟨h5, by rw [HT1.out]; exact hz⟩)
            rw [hz]
            clear hz h5
            go_wp2_with fail
            go_roundw
            case rel => exact ⟨q + 1, by omega, by go_num, rfl, HB4, H1⟩
            case measure => simp [intOf]; omega
          · have HR : Hid (wrongs d h k = wrongs (d + 1) h0 kk) := Lib.hid (by rw [HW0.out, if_pos h5]; exact HT2.out hz)
            have HZ0 := Lib.hid hz
            clear hz HT1 HT2
            generalize wrongs (d + 1) h0 kk = z at HR HZ0 ⊢
            have q1 : ((z : Int) != 0) = true := by rw [bne_iff_ne]; have := HZ0.out; omega
            go_wp2
            go_ret
            exact ⟨by rw [HR.out]; rfl, HZ.out.trans (HB4.out.mono HZ.out.size)⟩
        · have l5 : (5 ≤ h.kind) = False := eq_false h5
          have HR : Hid (wrongs d h k = 0) := Lib.hid (by rw [HW0.out, if_neg h5])
          go_wp2_with fail
          go_ret
          exact ⟨by rw [HR.out]; rfl, HBE.out⟩
      · have HR : Hid (wrongs d h k = 0) := Lib.hid (by
          rw [HW0.out]
          split
          · rename_i h5
            rcases Nat.eq_zero_or_pos q with h1 | h1
            · have : k.len = 0 := by have := HNI.out; omega
              cases k with
              | nil => rfl
              | cons _ _ _ => simp [F.len] at this
            · have := (HW.out h1).2
              rw [show q = k.len by have := HNI.out; omega, F.take_all] at this
              exact this
          · rfl)
        go_wp2_with fail
        go_ret
        exact ⟨by rw [HR.out]; rfl, HBE.out⟩
  · have HR : Hid (wrongs d h k = own d h ni) := Lib.hid (by rw [HWR.out, if_pos h0])
    have HZ0 := Lib.hid h0
    clear h0 HWR HD32
    generalize own d h ni = z at HR HZ0 ⊢
    have q1 : ((z : Int) != 0) = true := by rw [bne_iff_ne]; have := HZ0.out; omega
    go_wp2
    go_ret
    exact ⟨by rw [HR.out]; rfl, HZ.out.trans (HB1.out.mono HZ.out.size)⟩
theorem wrgs_any (n : Nat) : WrgC n := by
  induction n using Nat.strongRecOn with
  | ind n ih => exact wrgs_step n ih
end Js
end Go.Proofs.YtlfeddgpfaigkaaGreatDoor
namespace Go.Proofs.YtlfeddgpfaigkaaGreatDoor
namespace Js
/-- Places of the first keys, so that these never fall. -/
def Ris (ks : List (List UInt8)) (i : Nat) (p : List Nat) : Prop := p.Perm (List.range i) ∧ p.Pairwise fun a b => ks.getD a [] ≤ ks.getD b []
theorem ris_nil (ks : List (List UInt8)) : Ris ks 0 [] := ⟨List.Perm.refl _, List.Pairwise.nil⟩
theorem Ris.len {ks : List (List UInt8)} {i : Nat} {p : List Nat} (h : Ris ks i p) : p.length = i := by have := h.1.length_eq; simpa using this
theorem Ris.lt {ks : List (List UInt8)} {i : Nat} {p : List Nat} (h : Ris ks i p) {j : Nat} (hj : j ∈ p) : j < i := by have := h.1.mem_iff.1 hj; simpa using this
theorem ris_ins {ks : List (List UInt8)} {i n : Nat} {p : List Nat} (h : Ris ks i p) (hb : ∀ x ∈ p.take n, ks.getD x [] < ks.getD i []) (hc : ∀ x r, p.drop n = x :: r → ¬ ks.getD x [] < ks.getD i []) : Ris ks (i + 1) (p.take n ++ i :: p.drop n) := by
  have hp := h.2
  rw [← List.take_append_drop n p, List.pairwise_append] at hp
  obtain ⟨h1, h2, h3⟩ := hp
  have hd : ∀ y ∈ p.drop n, ks.getD i [] ≤ ks.getD y [] := by
    intro y hy
    cases e : p.drop n with
    | nil => rw [e] at hy; cases hy
    | cons x r =>
      have hx : ks.getD i [] ≤ ks.getD x [] := List.not_lt.1 (hc x r e)
      rw [e] at hy h2
      rcases List.mem_cons.1 hy with rfl | hy
      · exact hx
      · exact List.le_trans hx ((List.pairwise_cons.1 h2).1 y hy)
  constructor
  · refine (List.perm_middle).trans ?_
    rw [List.take_append_drop, List.range_succ]
    exact (h.1.cons i).trans (List.perm_append_comm (l₁ := [i]) (l₂ := List.range i))
  · rw [List.pairwise_append]
    refine ⟨h1, List.pairwise_cons.2 ⟨hd, h2⟩, ?_⟩
    intro x hx y hy
    rcases List.mem_cons.1 hy with rfl | hy
    · exact List.le_of_lt (hb x hx)
    · exact h3 x hx y hy
/-- So put in order, the members are the sorted ones. -/
theorem ris_sort {α : Type} {ks : List (List UInt8)} {fs : List α} {p : List Nat} (hn : ks.Nodup) (hl : ks.length = fs.length) (h : Ris ks ks.length p) : p.map (fun j => (ks.zip fs)[j]?) = (sortK (ks.zip fs)).map some := by
  have hz : ((ks.zip fs).map Prod.fst) = ks := map_fst_zip ks fs hl
  have hzl : (ks.zip fs).length = ks.length := by rw [List.length_zip, ← hl, Nat.min_self]
  refine List.Perm.eq_of_pairwise (le := fun a b => ∀ x y, a = some x → b = some y → x.1 ≤ y.1) (fun a b ha hb h1 h2 => ?_) ?_ ?_ ?_
  · obtain ⟨x, hx, rfl⟩ := List.mem_map.1 hb
    obtain ⟨j, hj, rfl⟩ := List.mem_map.1 ha
    have hjl := h.lt hj
    have ej : (ks.zip fs)[j]? = some ((ks.zip fs)[j]'(by omega)) := List.getElem?_eq_getElem _
    rw [ej] at h1 h2 ⊢
    have e : ((ks.zip fs)[j]'(by omega)).1 = x.1 := List.le_antisymm (h1 _ _ rfl rfl) (h2 _ _ rfl rfl)
    congr 1
    have hxm : x ∈ ks.zip fs := (sortK_perm _).mem_iff.1 hx
    obtain ⟨q, hq, rfl⟩ := List.getElem_of_mem hxm
    have hnz : ((ks.zip fs).map Prod.fst).Nodup := by rw [hz]; exact hn
    have : j = q := by
      refine (List.getElem_inj (h₀ := by rw [List.length_map]; omega) (h₁ := by rw [List.length_map]; omega) hnz).1 ?_
      rw [List.getElem_map, List.getElem_map]
      exact e
    subst this
    rfl
  · refine List.pairwise_map.2 ((List.Pairwise.and_mem.1 h.2).imp fun {a b} ⟨ha, hb, hab⟩ x y ex ey => ?_)
    have k1 : ks.getD a [] = x.1 := by
      have := (List.getElem?_zip_eq_some.1 ex).1
      rw [List.getD, this]; rfl
    have k2 : ks.getD b [] = y.1 := by
      have := (List.getElem?_zip_eq_some.1 ey).1
      rw [List.getD, this]; rfl
    rw [← k1, ← k2]; exact hab
  · have hs : Srt (sortK (ks.zip fs)) := sortK_srt (by rw [hz]; exact hn)
    refine List.pairwise_map.2 (hs.imp fun {a b} hab x y ex ey => ?_)
    cases ex; cases ey
    exact lexL_le hab
  · refine (h.1.map _).trans ?_
    have e : (List.range ks.length).map (fun j => (ks.zip fs)[j]?) = (ks.zip fs).map some := by
      apply List.ext_getElem?
      intro j
      rw [List.getElem?_map, List.getElem?_map]
      by_cases hj : j < ks.length
      · rw [List.getElem?_range hj]; simp [List.getElem?_eq_getElem (show j < (ks.zip fs).length by omega)]
      · rw [List.getElem?_eq_none (by simpa using hj), List.getElem?_eq_none (by omega)]; rfl
    rw [e]
    exact ((sortK_perm _).map some).symm
end Js
end Go.Proofs.YtlfeddgpfaigkaaGreatDoor
namespace Go.Proofs.YtlfeddgpfaigkaaGreatDoor
open Go.RowKit
namespace Js
theorem infoIntR : (Tryz.prog.info? 3).map (fun i => (i.zero, i.size, i.bytes)) = some (some (.int .i64 0), 1, 8) := by kernel_rfl
def ints (p : List Nat) : List Value := p.map fun x => .int .i64 (x : Nat)
theorem ints_app (p q : List Nat) : ints (p ++ q) = ints p ++ ints q := List.map_append
theorem ints_take (p : List Nat) (q : Nat) : ints (p.take q) = (ints p).take q := List.map_take
theorem ints_drop (p : List Nat) (q : Nat) : ints (p.drop q) = (ints p).drop q := List.map_drop
theorem ints_one (p : List Nat) : ∀ u ∈ ints p, u.oneCell' = true := by
  intro u hu
  obtain ⟨x, _, rfl⟩ := List.mem_map.1 hu
  rfl
theorem reads_take {w : World} {B n q : Nat} {A : Option Addr} {xs : List Value} (h : Reads w B 1 A n xs) (hq : q ≤ n) : Reads w B 1 A q (xs.take q) := by
  refine ⟨by rw [List.length_take, h.1]; omega, fun h0 => ?_⟩
  obtain ⟨ad, e, hb, hc⟩ := h.2 (by omega)
  refine ⟨ad, e, hb, fun j u hu => hc j u ?_⟩
  rw [List.getElem?_take] at hu
  split at hu
  · exact hu
  · cases hu
theorem own_cap {w : World} {base size n : Nat} {e : TypeId} {A : Option Addr} {c : Nat} {xs : List Value} (h : w.ownsRow base e size (.slice A n c) n xs) : n ≤ c := by
  rcases h.2 with ⟨h1, h2⟩ | ⟨g, cap, cur, h1, _, _, h2, _⟩
  · omega
  · cases h1; exact h2
set_option maxHeartbeats 1600000 in
set_option maxRecDepth 100000 in
theorem rising_any (l : List (List UInt8)) (A : Option Addr) (n c : Nat) (w : World) (hr : Reads w w.heap.size 1 A n (tx l)) (hn : n ≤ 4398046511104) :
    Calls Tryz.prog 87 #[.slice A n c] w fun x w' => ∃ v p, x = .returned v ∧ Ris l n p ∧ w'.ownsRow w.heap.size 3 1 v n (ints p) ∧ Below w.heap.size w w' := by
  obtain ⟨i0, hi0, hz0, hz1, hz2⟩ := info_parts infoIntR
  have hl : l.length = n := by have := hr.1; rw [tx_length] at this; omega
  have HL := Lib.hid hl
  have HR := Lib.hid hr
  clear hl hr
  go_enter Tryz.func87, Tryz.ntmps87
  go_wp2_with fail
  go_loopw [3, 4] (fun v i wr => ∃ (j : Nat) (p : List Nat), j ≤ n ∧ i = .int .i64 j ∧ Hid (Ris l j p) ∧ Hid (wr.ownsRow w.heap.size 3 1 v j (ints p)) ∧ Hid (Below w.heap.size w wr)) (fun _ i _ => n - (intOf i).toNat)
  case atStart => exact ⟨0, [], by omega, rfl, Lib.hid (ris_nil l), Lib.hid (World.ownsRow_nil _ _ _ _), Lib.hid (Below.refl _ _)⟩
  case round =>
    obtain ⟨j, p, hj, rfl, HP, HO, HB⟩ := hrel
    obtain ⟨A5, c5, hv, hr5⟩ := own_readsN HO.out
    subst hv
    have HR5 := Lib.hid hr5
    have HCAP := Lib.hid (own_cap HO.out)
    clear hr5
    obtain ⟨w1, hw1⟩ : ∃ w1, w1 = wr := ⟨_, rfl⟩
    subst hw1
    by_cases hlt : j < n
    · go_wp2_with fail
      go_loopw [5] (fun a wr => ∃ q : Nat, q ≤ j ∧ a = .int .i64 q ∧ Hid (∀ x ∈ p.take q, l.getD x [] < l.getD j []) ∧ Hid (Below w1.heap.size w1 wr)) (fun a _ => j - (intOf a).toNat)
      case atStart => exact ⟨0, by omega, rfl, Lib.hid (by simp), Lib.hid (Below.refl _ _)⟩
      case round =>
        obtain ⟨q, hq, rfl, HLS, HB1⟩ := hrel
        have HBW : Hid (Below w.heap.size w wr) := Lib.hid (HB.out.trans (HB1.out.mono HB.out.size))
        by_cases hqj : q < j
        · have hpl := HP.out.len
          obtain ⟨ad5, u5, rfl, _, hu5, hc5⟩ := (HR5.out.below HB1.out).at_ hqj
          obtain ⟨x, hx⟩ : ∃ x, p[q]? = some x := ⟨_, List.getElem?_eq_getElem (by omega)⟩
          have e5 : u5 = .int .i64 (x : Nat) := by
            rw [ints, List.getElem?_map, hx] at hu5
            exact (Option.some.inj hu5).symm
          subst e5
          have hxj : x < j := HP.out.lt (List.mem_of_getElem? hx)
          obtain ⟨ad, u, rfl, _, hu, hc⟩ := (HR.out.below HBW.out).at_ (show x < n by omega)
          obtain ⟨ad', u', hadd, _, hu', hc'⟩ := (HR.out.below HBW.out).at_ hlt
          cases hadd
          obtain rfl := tx_get hu (by have := HL.out; omega)
          obtain rfl := tx_get hu' (by have := HL.out; omega)
          clear hu hu' hu5
          obtain ⟨a, ha⟩ : ∃ a, a = l.getD x [] := ⟨_, rfl⟩
          obtain ⟨b, hb⟩ : ∃ b, b = l.getD j [] := ⟨_, rfl⟩
          rw [← ha] at hc
          rw [← hb] at hc'
          have HAB := Lib.hid (And.intro ha hb)
          have HX := Lib.hid hx
          clear ha hb hx hpl
          by_cases hab : lexL a b = true
          · have hbl : Op.bytesLess a b = true := less_of hab
            have H1 : Hid (∀ y ∈ p.take (q + 1), l.getD y [] < l.getD j []) := Lib.hid (fun y hy => by
              rw [List.take_add_one, HX.out] at hy
              rcases List.mem_append.1 hy with h1 | h1
              · exact HLS.out y h1
              · obtain rfl : y = x := by simpa using h1
                rw [← HAB.out.1, ← HAB.out.2]
                exact (lexL_lt a b).1 hab)
            clear hab
            go_wp2_with fail
            go_quiet (fail)
            have HB2 : Hid (Below w1.heap.size w1 (wr.drewN nq)) := Lib.hid (below_drewN HB1.out nq)
            go_wp2
            go_roundw
            case rel => exact ⟨q + 1, by omega, by go_num, H1, HB2⟩
            case measure => simp [intOf]; omega
          · have hbl : Op.bytesLess a b = false := by rw [bytesLess_eq]; exact decide_eq_false (fun h => hab ((lexL_lt a b).2 h))
            have HNL : Hid (∀ x r, p.drop q = x :: r → ¬ l.getD x [] < l.getD j []) := Lib.hid (fun y r e hlt => by
              have h1 : p[q]? = some y := by rw [← List.head?_drop, e]; rfl
              rw [HX.out] at h1
              cases h1
              rw [← HAB.out.1, ← HAB.out.2] at hlt
              exact hab ((lexL_lt a b).2 hlt))
            clear hab
            go_wp2_with fail
            go_quiet (fail)
            obtain ⟨wq, hwq⟩ : ∃ wq, wq = wr.drewN nq := ⟨_, rfl⟩
            have HB2 : Hid (Below w1.heap.size w1 wq) := Lib.hid (by rw [hwq]; exact below_drewN HB1.out nq)
            rw [← hwq]
            clear hwq hc hc' hc5
            have hqj' : q ≤ j := by omega
            have hcj := HCAP.out
            have HRW := Lib.hid (HR5.out.step (Nat.le_refl _) HB2.out)
            have HT1 : Hid (Reads wq wq.heap.size 1 (some ad5) q (ints (p.take q))) := Lib.hid (by rw [ints_take]; exact reads_take HRW.out hqj')
            have HBC : Hid (Below w.heap.size w wq) := Lib.hid (HB.out.trans (HB2.out.mono HB.out.size))
            have HNEW : Hid (Ris l (j + 1) (p.take q ++ j :: p.drop q)) := Lib.hid (ris_ins HP.out HLS.out HNL.out)
            go_upto_region 9 with fail
            go_upto_region 10 with (at_builtin; refine wpList_append_any _ rfl _ _ 150 rfl wq.heap.size 3 i0 (.int .i64 0) 1 8 Tryz.underlying150 hi0 hz0 hz1 hz2 rfl (by decide) (.slice none 0 0) 0 [] rfl (World.ownsRow_nil _ _ _ _) _ _ _ _ _ rfl HT1.out (ints_one _) (by unfold maxLen; omega) (by omega) (Nat.le_refl _) ?_; intro v2 w2 hown2 hgrow2 _)
            have HO2 : Hid (w2.ownsRow wq.heap.size 3 1 v2 q (ints (p.take q))) := Lib.hid (by simpa using hown2)
            have HB2 : Hid (Below wq.heap.size wq w2) := Lib.hid (Below.grown (Below.refl _ _) hgrow2 (Nat.le_refl _) (fun g hg => by simp [Value.ownBlock] at hg))
            clear hown2 hgrow2
            obtain ⟨A6, c6, hv2, _⟩ := own_readsN HO2.out
            subst hv2
            go_upto_region 11 with (at_builtin; refine wpList_append_own _ rfl _ _ 150 rfl wq.heap.size 3 i0 (.int .i64 0) 1 8 Tryz.underlying150 hi0 hz0 hz1 hz2 rfl (by decide) _ _ _ rfl (HO2.out.alloc _) ⟨w2.heap.size, 0, none⟩ 1 1 [.int .i64 (j : Nat)] rfl rfl (cell_one_new _ _ _) (by intro x hx; simp at hx; subst hx; rfl) (by unfold maxLen; omega) (by omega) (by have := HB2.out.size; simp; omega) ?_; intro v3 w3 hown3 hgrow3 _)
            have HO3 : Hid (w3.ownsRow wq.heap.size 3 1 v3 (q + 1) (ints (p.take q ++ [j]))) := Lib.hid (by rw [ints_app]; exact hown3)
            have HB3 : Hid (Below wq.heap.size wq w3) := Lib.hid (Below.grown (HB2.out.alloc HB2.out.size _) hgrow3 (by have := HB2.out.size; simp; omega) (fun g hg => (HO2.out.lt g hg).1))
            clear hown3 hgrow3
            obtain ⟨A7, c7, hv3, _⟩ := own_readsN HO3.out
            subst hv3
            have HT3 : Hid (Reads w3 wq.heap.size 1 (if c5 = q then (some ad5) else Option.map (·.add q) (some ad5)) (j - q) (ints (p.drop q))) := Lib.hid (by
              have h1 := (HRW.out.below HB3.out).cut (k := q) (cap := c5) hqj' hcj
              rw [ints_drop]
              simpa using h1)
            rw [if_neg (by omega)] at HT3
            have hcq : ¬ c5 = q := by omega
            go_upto_region 12 with (at_builtin; refine wpList_append_any _ rfl _ _ 150 rfl wq.heap.size 3 i0 (.int .i64 0) 1 8 Tryz.underlying150 hi0 hz0 hz1 hz2 rfl (by decide) _ _ _ rfl HO3.out _ _ _ _ _ rfl HT3.out (ints_one _) (by unfold maxLen; omega) (by omega) (HB3.out.size) ?_; intro v4 w4 hown4 hgrow4 _)
            have HO4 : Hid (w4.ownsRow w.heap.size 3 1 v4 (j + 1) (ints (p.take q ++ j :: p.drop q))) := Lib.hid (by
              rw [show p.take q ++ j :: p.drop q = (p.take q ++ [j]) ++ p.drop q by simp, ints_app, ← show q + 1 + (j - q) = j + 1 by omega]
              exact own_less hown4 HBC.out.size)
            have HB4 : Hid (Below w.heap.size w w4) := Lib.hid (HBC.out.trans ((Below.grown HB3.out hgrow4 HB3.out.size (fun g hg => (HO3.out.lt g hg).1)).mono HBC.out.size))
            clear hown4 hgrow4 HO2 HO3 HT3 HT1
            go_wp2_with fail
            go_roundw
            case rel => exact ⟨j + 1, _, by omega, by go_num, HNEW, HO4, HB4⟩
            case measure => simp [intOf]; omega
        · obtain rfl : j = q := by omega
          go_upto_region 6 with fail
          refine wp_region_held_drew (S := (fun _ => True)) (by kernel_rfl) trivial (fun hHeld => ?_)
          refine wpAnyH_take (i := 0) (oi := { dst := some 13, op := Op.move (Operand.tmp 5), type := 3, pos := "ref.go:160", after := #[], guard := none }) (v := ?_) rfl (by kernel_rfl) (by kernel_rfl) (by kernel_rfl) (fun _ _ _ h => h) (Or.inl ⟨by rfl, ?_⟩) (by assumption) ?_
          rotate_left
          · (intro w hSw; (try dsimp only at hSw); go_simp; try with_reducible rfl)
          try simp only [Act.put, List.setIfInBounds_toArray, List.set_cons_zero, List.set_cons_succ]
          refine wpAnyH_take (i := 1) (oi := { dst := some 14, op := Op.move (Operand.tmp 3), type := 150, pos := "ref.go:160", after := #[], guard := none }) (v := ?_) rfl (by kernel_rfl) (by kernel_rfl) (by kernel_rfl) (fun _ _ _ h => h) (Or.inl ⟨by rfl, ?_⟩) (by assumption) ?_
          rotate_left
          · (intro w hSw; (try dsimp only at hSw); go_simp; try with_reducible rfl)
          try simp only [Act.put, List.setIfInBounds_toArray, List.set_cons_zero, List.set_cons_succ]
          refine wpAnyH_take (i := 2) (oi := { dst := some 15, op := Op.call { callee := Callee.builtin Builtin.len, args := #[Operand.tmp 14], argTypes := #[150] }, type := 3, pos := "ref.go:160", after := #[{ on := 1, ground := Ground.data }], guard := none }) (v := ?_) rfl (by kernel_rfl) (by kernel_rfl) (by kernel_rfl) (fun _ _ _ h => h) (Or.inl ⟨by rfl, ?_⟩) (by assumption) ?_
          rotate_left
          · (intro w hSw; (try dsimp only at hSw); go_simp; try with_reducible rfl)
          try simp only [Act.put, List.setIfInBounds_toArray, List.set_cons_zero, List.set_cons_succ]
          refine wpAnyH_take (i := 3) (oi := { dst := some 16, op := Op.binOp BinOp.lss 3 (Operand.tmp 13) (Operand.tmp 15) 3, type := 4, pos := "ref.go:160", after := #[{ on := 0, ground := Ground.data }, { on := 2, ground := Ground.data }], guard := none }) (v := ?_) rfl (by kernel_rfl) (by kernel_rfl) (by kernel_rfl) (fun _ _ _ h => h) (Or.inl ⟨by rfl, ?_⟩) (by assumption) ?_
          rotate_left
          · (intro w hSw; (try dsimp only at hSw); go_simp; try with_reducible rfl)
          try simp only [Act.put, List.setIfInBounds_toArray, List.set_cons_zero, List.set_cons_succ]
          refine wpAnyH_take (i := 4) (oi := { dst := some 17, op := Op.move (Operand.tmp 16), type := 4, pos := "ref.go:160", after := #[{ on := 3, ground := Ground.data }], guard := none }) (v := ?_) rfl (by kernel_rfl) (by kernel_rfl) (by kernel_rfl) (fun _ _ _ h => h) (Or.inl ⟨by rfl, ?_⟩) (by assumption) ?_
          rotate_left
          · (intro w hSw; (try dsimp only at hSw); go_simp; try with_reducible rfl)
          try simp only [Act.put, List.setIfInBounds_toArray, List.set_cons_zero, List.set_cons_succ]
          refine wpAnyH_take (i := 5) (oi := { dst := some 18, op := Op.move (Operand.tmp 0), type := 23, pos := "ref.go:160", after := #[{ on := 4, ground := Ground.guard }], guard := some (4, true) }) (v := undef) rfl (by kernel_rfl) (by kernel_rfl) (by kernel_rfl) (fun _ _ _ h => h) (Or.inr ⟨by rfl, rfl⟩) (by assumption) ?_
          try simp only [Act.put, List.setIfInBounds_toArray, List.set_cons_zero, List.set_cons_succ]
          refine wpAnyH_take (i := 6) (oi := { dst := some 19, op := Op.move (Operand.tmp 3), type := 150, pos := "ref.go:160", after := #[{ on := 4, ground := Ground.guard }], guard := some (4, true) }) (v := undef) rfl (by kernel_rfl) (by kernel_rfl) (by kernel_rfl) (fun _ _ _ h => h) (Or.inr ⟨by rfl, rfl⟩) (by assumption) ?_
          try simp only [Act.put, List.setIfInBounds_toArray, List.set_cons_zero, List.set_cons_succ]
          refine wpAnyH_take (i := 7) (oi := { dst := some 20, op := Op.move (Operand.tmp 5), type := 3, pos := "ref.go:160", after := #[{ on := 4, ground := Ground.guard }], guard := some (4, true) }) (v := undef) rfl (by kernel_rfl) (by kernel_rfl) (by kernel_rfl) (fun _ _ _ h => h) (Or.inr ⟨by rfl, rfl⟩) (by assumption) ?_
          try simp only [Act.put, List.setIfInBounds_toArray, List.set_cons_zero, List.set_cons_succ]
          refine wpAnyH_take (i := 8) (oi := { dst := some 21, op := Op.indexAddr 150 (Operand.tmp 19) (Operand.tmp 20), type := 0, pos := "ref.go:160", after := #[{ on := 6, ground := Ground.data }, { on := 7, ground := Ground.data }, { on := 4, ground := Ground.guard }], guard := some (4, true) }) (v := undef) rfl (by kernel_rfl) (by kernel_rfl) (by kernel_rfl) (fun _ _ _ h => h) (Or.inr ⟨by rfl, rfl⟩) (by assumption) ?_
          try simp only [Act.put, List.setIfInBounds_toArray, List.set_cons_zero, List.set_cons_succ]
          refine wpAnyH_take (i := 9) (oi := { dst := some 22, op := Op.load 3 (Operand.tmp 21), type := 3, pos := "ref.go:160", after := #[{ on := 8, ground := Ground.data }, { on := 4, ground := Ground.guard }], guard := some (4, true) }) (v := undef) rfl (by kernel_rfl) (by kernel_rfl) (by kernel_rfl) (fun _ _ _ h => h) (Or.inr ⟨by rfl, rfl⟩) (by assumption) ?_
          try simp only [Act.put, List.setIfInBounds_toArray, List.set_cons_zero, List.set_cons_succ]
          refine wpAnyH_take (i := 10) (oi := { dst := some 23, op := Op.indexAddr 23 (Operand.tmp 18) (Operand.tmp 22), type := 0, pos := "ref.go:160", after := #[{ on := 5, ground := Ground.data }, { on := 9, ground := Ground.data }, { on := 4, ground := Ground.guard }], guard := some (4, true) }) (v := undef) rfl (by kernel_rfl) (by kernel_rfl) (by kernel_rfl) (fun _ _ _ h => h) (Or.inr ⟨by rfl, rfl⟩) (by assumption) ?_
          try simp only [Act.put, List.setIfInBounds_toArray, List.set_cons_zero, List.set_cons_succ]
          refine wpAnyH_take (i := 11) (oi := { dst := some 24, op := Op.load 9 (Operand.tmp 23), type := 9, pos := "ref.go:160", after := #[{ on := 10, ground := Ground.data }, { on := 4, ground := Ground.guard }], guard := some (4, true) }) (v := undef) rfl (by kernel_rfl) (by kernel_rfl) (by kernel_rfl) (fun _ _ _ h => h) (Or.inr ⟨by rfl, rfl⟩) (by assumption) ?_
          try simp only [Act.put, List.setIfInBounds_toArray, List.set_cons_zero, List.set_cons_succ]
          refine wpAnyH_take (i := 12) (oi := { dst := some 25, op := Op.move (Operand.tmp 0), type := 23, pos := "ref.go:160", after := #[{ on := 4, ground := Ground.guard }], guard := some (4, true) }) (v := undef) rfl (by kernel_rfl) (by kernel_rfl) (by kernel_rfl) (fun _ _ _ h => h) (Or.inr ⟨by rfl, rfl⟩) (by assumption) ?_
          try simp only [Act.put, List.setIfInBounds_toArray, List.set_cons_zero, List.set_cons_succ]
          refine wpAnyH_take (i := 13) (oi := { dst := some 26, op := Op.move (Operand.tmp 4), type := 3, pos := "ref.go:160", after := #[{ on := 4, ground := Ground.guard }], guard := some (4, true) }) (v := undef) rfl (by kernel_rfl) (by kernel_rfl) (by kernel_rfl) (fun _ _ _ h => h) (Or.inr ⟨by rfl, rfl⟩) (by assumption) ?_
          try simp only [Act.put, List.setIfInBounds_toArray, List.set_cons_zero, List.set_cons_succ]
          refine wpAnyH_take (i := 14) (oi := { dst := some 27, op := Op.indexAddr 23 (Operand.tmp 25) (Operand.tmp 26), type := 0, pos := "ref.go:160", after := #[{ on := 12, ground := Ground.data }, { on := 13, ground := Ground.data }, { on := 4, ground := Ground.guard }], guard := some (4, true) }) (v := undef) rfl (by kernel_rfl) (by kernel_rfl) (by kernel_rfl) (fun _ _ _ h => h) (Or.inr ⟨by rfl, rfl⟩) (by assumption) ?_
          try simp only [Act.put, List.setIfInBounds_toArray, List.set_cons_zero, List.set_cons_succ]
          refine wpAnyH_take (i := 15) (oi := { dst := some 28, op := Op.load 9 (Operand.tmp 27), type := 9, pos := "ref.go:160", after := #[{ on := 14, ground := Ground.data }, { on := 4, ground := Ground.guard }], guard := some (4, true) }) (v := undef) rfl (by kernel_rfl) (by kernel_rfl) (by kernel_rfl) (fun _ _ _ h => h) (Or.inr ⟨by rfl, rfl⟩) (by assumption) ?_
          try simp only [Act.put, List.setIfInBounds_toArray, List.set_cons_zero, List.set_cons_succ]
          refine wpAnyH_take (i := 16) (oi := { dst := some 29, op := Op.binOp BinOp.lss 9 (Operand.tmp 24) (Operand.tmp 28) 9, type := 4, pos := "ref.go:160", after := #[{ on := 11, ground := Ground.data }, { on := 15, ground := Ground.data }, { on := 4, ground := Ground.guard }], guard := some (4, true) }) (v := undef) rfl (by kernel_rfl) (by kernel_rfl) (by kernel_rfl) (fun _ _ _ h => h) (Or.inr ⟨by rfl, rfl⟩) (by assumption) ?_
          try simp only [Act.put, List.setIfInBounds_toArray, List.set_cons_zero, List.set_cons_succ]
          refine wpAnyH_take (i := 17) (oi := { dst := some 30, op := Op.pick (Operand.tmp 17) (Operand.tmp 29) (Operand.const (Value.bool false)), type := 4, pos := "ref.go:160", after := #[{ on := 4, ground := Ground.data }, { on := 16, ground := Ground.data }], guard := none }) (v := ?_) rfl (by kernel_rfl) (by kernel_rfl) (by kernel_rfl) (fun _ _ _ h => h) (Or.inl ⟨by rfl, ?_⟩) (by assumption) ?_
          rotate_left
          · (intro w hSw; (try dsimp only at hSw); go_simp; try with_reducible rfl)
          try simp only [Act.put, List.setIfInBounds_toArray, List.set_cons_zero, List.set_cons_succ]
          refine wpAnyH_done (by kernel_rfl) ?_ _
          obtain ⟨wq, hwq⟩ : ∃ wq, wq = wr.drew := ⟨_, rfl⟩
          have HB2 : Hid (Below w1.heap.size w1 wq) := Lib.hid (by rw [hwq]; exact HB1.out.drew)
          rw [← hwq]
          clear hwq
          have hqj' : j ≤ j := Nat.le_refl _
          have hcj := HCAP.out
          have HRW := Lib.hid (HR5.out.step (Nat.le_refl _) HB2.out)
          have HT1 : Hid (Reads wq wq.heap.size 1 A5 j (ints (p.take j))) := Lib.hid (by rw [ints_take]; exact reads_take HRW.out hqj')
          have HBC : Hid (Below w.heap.size w wq) := Lib.hid (HB.out.trans (HB2.out.mono HB.out.size))
          have HNEW : Hid (Ris l (j + 1) (p.take j ++ j :: p.drop j)) := Lib.hid (ris_ins HP.out HLS.out (fun y r e => by rw [List.drop_eq_nil_of_le (Nat.le_of_eq HP.out.len)] at e; cases e))
          go_upto_region 9 with fail
          go_upto_region 10 with (at_builtin; refine wpList_append_any _ rfl _ _ 150 rfl wq.heap.size 3 i0 (.int .i64 0) 1 8 Tryz.underlying150 hi0 hz0 hz1 hz2 rfl (by decide) (.slice none 0 0) 0 [] rfl (World.ownsRow_nil _ _ _ _) _ _ _ _ _ rfl HT1.out (ints_one _) (by unfold maxLen; omega) (by omega) (Nat.le_refl _) ?_; intro v2 w2 hown2 hgrow2 _)
          have HO2 : Hid (w2.ownsRow wq.heap.size 3 1 v2 j (ints (p.take j))) := Lib.hid (by simpa using hown2)
          have HB2 : Hid (Below wq.heap.size wq w2) := Lib.hid (Below.grown (Below.refl _ _) hgrow2 (Nat.le_refl _) (fun g hg => by simp [Value.ownBlock] at hg))
          clear hown2 hgrow2
          obtain ⟨A6, c6, hv2, _⟩ := own_readsN HO2.out
          subst hv2
          go_upto_region 11 with (at_builtin; refine wpList_append_own _ rfl _ _ 150 rfl wq.heap.size 3 i0 (.int .i64 0) 1 8 Tryz.underlying150 hi0 hz0 hz1 hz2 rfl (by decide) _ _ _ rfl (HO2.out.alloc _) ⟨w2.heap.size, 0, none⟩ 1 1 [.int .i64 (j : Nat)] rfl rfl (cell_one_new _ _ _) (by intro x hx; simp at hx; subst hx; rfl) (by unfold maxLen; omega) (by omega) (by have := HB2.out.size; simp; omega) ?_; intro v3 w3 hown3 hgrow3 _)
          have HO3 : Hid (w3.ownsRow wq.heap.size 3 1 v3 (j + 1) (ints (p.take j ++ [j]))) := Lib.hid (by rw [ints_app]; exact hown3)
          have HB3 : Hid (Below wq.heap.size wq w3) := Lib.hid (Below.grown (HB2.out.alloc HB2.out.size _) hgrow3 (by have := HB2.out.size; simp; omega) (fun g hg => (HO2.out.lt g hg).1))
          clear hown3 hgrow3
          obtain ⟨A7, c7, hv3, _⟩ := own_readsN HO3.out
          subst hv3
          have HT3 : Hid (∀ A', Reads w3 wq.heap.size 1 A' 0 (ints [])) := Lib.hid (fun _ => ⟨rfl, fun h => absurd h (by omega)⟩)
          have HD0 : Hid (p.drop j = []) := Lib.hid (List.drop_eq_nil_of_le (Nat.le_of_eq HP.out.len))
          go_upto_region 12 with (at_builtin; refine wpList_append_any _ rfl _ _ 150 rfl wq.heap.size 3 i0 (.int .i64 0) 1 8 Tryz.underlying150 hi0 hz0 hz1 hz2 rfl (by decide) _ _ _ rfl HO3.out _ _ _ _ _ rfl (HT3.out _) (ints_one _) (by unfold maxLen; omega) (by omega) (HB3.out.size) ?_; intro v4 w4 hown4 hgrow4 _)
          have HO4 : Hid (w4.ownsRow w.heap.size 3 1 v4 (j + 1) (ints (p.take j ++ j :: p.drop j))) := Lib.hid (by
            rw [HD0.out, show p.take j ++ [j] = (p.take j ++ [j]) ++ [] by simp, ints_app]
            exact own_less hown4 HBC.out.size)
          have HB4 : Hid (Below w.heap.size w w4) := Lib.hid (HBC.out.trans ((Below.grown HB3.out hgrow4 HB3.out.size (fun g hg => (HO3.out.lt g hg).1)).mono HBC.out.size))
          clear hown4 hgrow4 HO2 HO3 HT3 HT1
          go_wp2_with fail
          go_roundw
          case rel => exact ⟨j + 1, _, by omega, by go_num, HNEW, HO4, HB4⟩
          case measure => simp [intOf]; omega
    · obtain rfl : j = n := by omega
      go_wp2_with fail
      go_ret
      exact ⟨_, p, rfl, HP.out, HO.out, HB.out⟩
end Js
end Go.Proofs.YtlfeddgpfaigkaaGreatDoor
namespace Go.Proofs.YtlfeddgpfaigkaaGreatDoor
open Go.RowKit
namespace Js
/-- Below block B all is as it was, and all that holds no bytes. -/
def Ky (B : Nat) (w w' : World) : Prop := Below B w w' ∧ ∀ (k : Nat) (cs : Array Value) (t : TypeId) (fz : Nat × Nat), w.heap[k]? = some (.cells cs t fz) → t ≠ 5 → w'.heap[k]? = w.heap[k]?
section
variable {B : Nat} {w w1 w2 : World}
theorem ky_refl (B : Nat) (w : World) : Ky B w w := ⟨Below.refl _ _, fun _ _ _ _ _ _ => rfl⟩
theorem ky_trans (h : Ky B w w1) (k : Ky B w1 w2) : Ky B w w2 :=
  ⟨h.1.trans k.1, fun i cs t fz hi ht => by
    have e := h.2 i cs t fz hi ht
    exact (k.2 i cs t fz (e.trans hi) ht).trans e⟩
theorem ky_of (h : Below w.heap.size w w1) (hB : B ≤ w.heap.size) : Ky B w w1 :=
  ⟨h.mono hB, fun i cs t fz hi _ => h.block i (by
    rcases Nat.lt_or_ge i w.heap.size with h1 | h1
    · exact h1
    · rw [Array.getElem?_eq_none h1] at hi; cases hi)⟩
theorem ky_size (h : Ky B w w1) : w.heap.size ≤ w1.heap.size := h.1.size
theorem ky_blk {g : Nat} {t : TypeId} {cs : Array Value} (h : Ky B w w1) (hb : Blk w g t cs) (ht : t ≠ 5) : Blk w1 g t cs := (h.2 g cs t (0, 0) hb ht).trans hb
theorem ky_own {base size n : Nat} {e : TypeId} {v : Value} {xs : List Value} (h : Ky B w w1) (ho : w.ownsRow base e size v n xs) (he : e ≠ 5) : w1.ownsRow base e size v n xs := by
  refine ⟨ho.1, ?_⟩
  rcases ho.2 with hn | ⟨g, cap, cur, rfl, hB, hgg, rest⟩
  · exact .inl hn
  · exact .inr ⟨g, cap, cur, rfl, hB, (h.2 g _ _ _ hgg he).trans hgg, rest⟩
theorem ky_grown {v : Value} {l : List UInt8} (ho : OwnY w B v l) (hg : w.grownBy w1 v.ownBlock) (hB : B ≤ w.heap.size) : Ky B w w1 := by
  refine ⟨Below.grown (Below.refl _ _) hg hB (fun j hj => (World.ownsRow.lt ho j hj).1), fun i cs t fz hi ht => ?_⟩
  have hlt : i < w.heap.size := by
    rcases Nat.lt_or_ge i w.heap.size with h1 | h1
    · exact h1
    · rw [Array.getElem?_eq_none h1] at hi; cases hi
  refine hg.block i hlt (fun e => ?_)
  rcases ho.2 with ⟨rfl, _⟩ | ⟨g, cap, cur, rfl, _, hh, _⟩
  · simp [Value.ownBlock] at e
  · have : g = i := by simpa [Value.ownBlock] using e.symm
    subst this
    rw [hi] at hh
    injection hh with hh
    injection hh with _ hh
    exact ht hh
theorem ky_cell {base n c : Nat} {e : TypeId} {ad : Addr} {xs : List Value} (h : Ky B w w1) (ho : w.ownsRow base e 1 (.slice (some ad) n c) n xs) (he : e ≠ 5) (j : Nat) : w1.cell? (ad.add j) = w.cell? (ad.add j) := by
  rcases ho.2 with ⟨h1, _⟩ | ⟨g, cap, cur, h1, _, hgg, _⟩
  · cases h1
  · cases h1
    exact World.cell?_of_block (by rw [block_of_add]; exact h.2 g _ _ _ hgg he)
theorem ownY_alloc {v : Value} {l : List UInt8} (h : OwnY w B v l) (o : Obj) : OwnY (w.alloc o) B v l := World.ownsRow.alloc h o
theorem ownY_below {v : Value} {l : List UInt8} (h : OwnY w B v l) (hb : Below w.heap.size w w1) : OwnY w1 B v l := own_kept h hb
end
/-- Bytes more, of a text. -/
theorem wp_strK {o : Oper} {a : Act} {K : Act → World → Prop} {Q : Exit → Act → World → Prop} (w : World) (sl x : Operand)
    (ho : o.op = .call { callee := .builtin .append, args := #[sl, x], argTypes := #[74, 9] })
    (B : Nat) (v : Value) (l s : List UInt8) (hown : OwnY w B v l) (hs : a.eval sl = v) (hx : a.eval x = .string ⟨s.toArray⟩) (hB : B ≤ w.heap.size) (hl : l.length + s.length ≤ 140737488355327)
    (h : ∀ v' w' m, m = l ++ s → OwnY w' B v' m → (∃ A k, v' = .slice A m.length k) → Ky B w w' → K (a.put o.dst v') w') : o.wp Tryz.prog a w K Q := by
  obtain ⟨i0, hi0, hz0, hz1, hz2⟩ := info_parts infoByteQ
  have hsz : (⟨s.toArray⟩ : ByteArray).size = s.length := by simp [ByteArray.size]
  obtain ⟨v', w', hr, h2, h3, _⟩ := Lib.run_append_own_string (P := Tryz.prog) w B 74 9 o.type 5 i0 Tryz.underlying74 Tryz.underlying9 hi0 hz0 hz1 hz2 v l.length (Lib.byteCells l) hown ⟨s.toArray⟩ (by rw [hsz]; unfold maxLen; omega) (by rw [hsz]; omega) hB
  have h4 : OwnY w' B v' (l ++ s) := by
    unfold OwnY
    rw [List.length_append, byteCells_app, ← hsz]
    exact h2
  unfold Oper.wp execOp
  simp only [ho, resolve, invoke, builtin, Sem.run_bind, Sem.run_pure, Result.andThen_ok, List.map_toArray, List.map_cons, List.map_nil, hs, hx, hr]
  exact h v' w' _ rfl h4 (ownY_form h4) (ky_grown hown h3 hB)
theorem wpList_strK {ops : Array Oper} {rest : List Oper} {o : Oper} {a : Act} {Q : Exit → Act → World → Prop} (w : World) (hgd : o.guard = none) (sl x : Operand)
    (ho : o.op = .call { callee := .builtin .append, args := #[sl, x], argTypes := #[74, 9] })
    (B : Nat) (v : Value) (l s : List UInt8) (hown : OwnY w B v l) (hs : a.eval sl = v) (hx : a.eval x = .string ⟨s.toArray⟩) (hB : B ≤ w.heap.size) (hl : l.length + s.length ≤ 140737488355327)
    (h : ∀ v' w' m, m = l ++ s → OwnY w' B v' m → (∃ A k, v' = .slice A m.length k) → Ky B w w' → wpList Tryz.prog ops Q rest (a.put o.dst v') w') : wpList Tryz.prog ops Q (o :: rest) a w :=
  wpList_plain hgd fun _ hK => wp_strK w sl x ho B v l s hown hs hx hB hl fun v' w' m h1 h2 h3 h4 => hK _ _ (h v' w' m h1 h2 h3 h4)
/-- A byte more: one that was laid by itself. -/
theorem wpList_byteK {ops : Array Oper} {rest : List Oper} {o : Oper} {a : Act} {Q : Exit → Act → World → Prop} (w : World) (hgd : o.guard = none) (s x : Operand)
    (ho : o.op = .call { callee := .builtin .append, args := #[s, x], argTypes := #[74, 74] })
    (B : Nat) (v : Value) (l : List UInt8) (c : UInt8) {z : Int} (hown : OwnY w B v l) (hzc : z = (c.toNat : Int)) (hs : a.eval s = v) (hB : B ≤ w.heap.size) (hx : a.eval x = .slice (some ⟨w.heap.size, 0, none⟩) 1 1) (hl : l.length ≤ 140737488355326)
    (h : ∀ v' w' m, m = l ++ [c] → OwnY w' B v' m → (∃ A k, v' = .slice A m.length k) → Ky B w w' → wpList Tryz.prog ops Q rest (a.put o.dst v') w') :
    wpList Tryz.prog ops Q (o :: rest) a (w.alloc (.cells #[.int .u8 z] 5)) := by
  obtain ⟨i0, hi0, hz0, hz1, hz2⟩ := info_parts infoByteQ
  subst hzc
  refine wpList_append_any _ hgd s x 74 ho B 5 i0 (.int .u8 0) 1 1 Tryz.underlying74 hi0 hz0 hz1 hz2 rfl (by decide) v l.length (Lib.byteCells l) hs (World.ownsRow.alloc hown _) _ _ 1 1 [.int .u8 (c.toNat : Int)] hx (Reads.of_block (n := 1) (heap_alloc_new w _) rfl) (by intro u hu; obtain rfl := List.mem_singleton.1 hu; rfl) (by unfold maxLen; omega) (by omega) (by simp; omega) ?_
  intro v' w' h1 h2 _
  have h3 : OwnY w' B v' (l ++ [c]) := by
    unfold OwnY
    rw [List.length_append, byteCells_app]
    exact h1
  refine h v' w' _ rfl h3 (ownY_form h3) ?_
  exact ky_trans (ky_of ((Below.refl _ _).alloc (Nat.le_refl _) _) hB) (ky_grown (ownY_alloc hown _) h2 (by simp; omega))
/-- The j-th of the sorted members, by its place. -/
theorem ris_at {α : Type} {ks : List (List UInt8)} {fs : List α} {p : List Nat} (hn : ks.Nodup) (hl : ks.length = fs.length) (h : Ris ks ks.length p) {j q : Nat} (hq : p[j]? = some q) : ∃ x y, ks[q]? = some x ∧ fs[q]? = some y ∧ (sortK (ks.zip fs))[j]? = some (x, y) := by
  have e := congrArg (fun l => l[j]?) (ris_sort hn hl h)
  simp only [List.getElem?_map, hq, Option.map_some] at e
  have hqn : q < ks.length := h.lt (List.mem_of_getElem? hq)
  have ez : (ks.zip fs)[q]? = some ((ks.zip fs)[q]'(by rw [List.length_zip, ← hl, Nat.min_self]; exact hqn)) := List.getElem?_eq_getElem _
  generalize (ks.zip fs)[q]'_ = z at ez
  rw [ez] at e
  obtain ⟨z1, z2⟩ := z
  have h2 := List.getElem?_zip_eq_some.1 ez
  refine ⟨z1, z2, h2.1, h2.2, ?_⟩
  cases e2 : (sortK (ks.zip fs))[j]? with
  | none => rw [e2] at e; cases e
  | some y => rw [e2] at e; cases e; rfl
/-- What form leaves. -/
def FrmP (B : Nat) (r : List UInt8) (w : World) (x : Ending) (w' : World) : Prop := ∃ v', x = .returned v' ∧ OwnY w' B v' r ∧ Ky B w w'
def FrmC (n : Nat) : Prop := ∀ (d : Nat) (h : Hd) (k : F) (iv kv : Value) (S : Nat → Prop) (B : Nat) (v : Value) (m r : List UInt8) (w : World), k.sz ≤ n → wrongs d h k = 0 → Fit h → NumOk h → k.All Fit → k.All NumOk → r = m ++ form h k → r.length ≤ 1099511627776 → TV encJ w S h k (jcells h iv kv) → (∀ b, S b → b < B) → B ≤ w.heap.size → OwnY w B v m →
  Calls Tryz.prog 33 #[v, .agg #[.int .i64 h.kind, .int .i64 h.num, .string ⟨h.text.toArray⟩, iv, kv]] w (FrmP B r w)
set_option maxHeartbeats 6400000 in
set_option maxRecDepth 100000 in
theorem frm_step (n : Nat) (hC : ∀ m, m < n → FrmC m) : FrmC n := by
  intro d h k iv kv S B v m r w hk hw hf hn hkf hkn hr hl htv hS hB hO
  obtain ⟨A1, c1, A2, c2, us, rfl, rfl, hlk, hlq, hr1, htr, hr2⟩ := tv_parts htv
  obtain ⟨A0, c0, rfl⟩ := ownY_form hO
  have h0 := own_zero (wrongs_zero hw).1
  have hw5 := (wrongs_zero hw).2
  obtain ⟨kd, nm, te, ks⟩ := h
  dsimp only at *
  clear htv
  obtain ⟨ni, hni⟩ : ∃ ni, ni = k.len := ⟨_, rfl⟩
  obtain ⟨nk, hnk⟩ : ∃ nk, nk = ks.length := ⟨_, rfl⟩
  rw [← hni] at hr1 hlk h0 ⊢
  rw [← hnk] at hr2 hlq h0 ⊢
  have HNI := Lib.hid hni
  have HNK := Lib.hid hnk
  clear hni hnk
  have HO5 := Lib.hid h0
  have HW5 := Lib.hid hw5
  have HR := Lib.hid hr
  have HL := Lib.hid hl
  have hml : m.length ≤ 1099511627776 := by rw [hr, List.length_append] at hl; omega
  obtain ⟨wz, hwz⟩ : ∃ wz, wz = w.alloc (.cells #[.int .i64 kd, .int .i64 nm, .string ⟨te.toArray⟩, .slice A1 ni c1, .slice A2 nk c2] 25) := ⟨_, rfl⟩
  have HBA : Hid (Blk wz w.heap.size 25 #[.int .i64 kd, .int .i64 nm, .string ⟨te.toArray⟩, .slice A1 ni c1, .slice A2 nk c2]) := Lib.hid (by rw [hwz]; exact Blk.new _ _ _)
  have HZ : Hid (Ky B w wz) := Lib.hid (by rw [hwz]; exact ky_of ((Below.refl _ _).alloc (Nat.le_refl _) _) hB)
  have HOZ : Hid (OwnY wz B (.slice A0 m.length c0) m) := Lib.hid (by rw [hwz]; exact ownY_alloc hO _)
  have HBZ : Hid (B ≤ wz.heap.size) := Lib.hid (Nat.le_trans hB (ky_size HZ.out))
  have HC := Lib.hid hC
  have HK := Lib.hid hk
  have HAL := Lib.hid (And.intro hkf hkn)
  have HFN := Lib.hid (And.intro hf hn)
  have HS := Lib.hid hS
  have HTR := Lib.hid htr
  have HR1 := Lib.hid (hr1.reads hS)
  have HR2 := Lib.hid (hr2.reads hS)
  have HLQ := Lib.hid (And.intro hlk hlq)
  clear hC hk hS htr hr1 hr2 hkf hkn hf hn hr hl hw hw5 hO hB hlk hlq
  have d0 := HBA.out.cell 0
  have d1 := HBA.out.cell 1
  have d2 := HBA.out.cell 2
  have d3 := HBA.out.cell 3
  have d4 := HBA.out.cell 4
  go_enter Tryz.func33, Tryz.ntmps33
  go_upto_region 1 with fail
  rw [← hwz]
  clear hwz
  rcases (by omega : kd = 0 ∨ kd = 1 ∨ kd = 2 ∨ kd = 3 ∨ kd = 4 ∨ kd = 5 ∨ kd = 6) with rfl | rfl | rfl | rfl | rfl | rfl | rfl
  · clear h0
    have HF : Hid (r = m ++ [110, 117, 108, 108]) := Lib.hid HR.out
    go_wp2_with (at_builtin; go_loud (refine wpList_strK wz rfl _ _ rfl B _ m [110, 117, 108, 108] HOZ.out rfl rfl HBZ.out (by simp; omega) ?_; rintro _ w2 m2 hm h1 ⟨A2, c2', rfl⟩ h2; have HO2 := Lib.hid h1; have HK2 := Lib.hid h2; have HM2 := Lib.hid hm; clear h1 h2 hm))
    go_ret
    exact ⟨_, rfl, by rw [HF.out, ← HM2.out]; exact HO2.out, ky_trans HZ.out HK2.out⟩
  · clear h0
    have HF : Hid (r = m ++ [102, 97, 108, 115, 101]) := Lib.hid HR.out
    go_wp2_with (at_builtin; go_loud (refine wpList_strK wz rfl _ _ rfl B _ m [102, 97, 108, 115, 101] HOZ.out rfl rfl HBZ.out (by simp; omega) ?_; rintro _ w2 m2 hm h1 ⟨A2, c2', rfl⟩ h2; have HO2 := Lib.hid h1; have HK2 := Lib.hid h2; have HM2 := Lib.hid hm; clear h1 h2 hm))
    go_ret
    exact ⟨_, rfl, by rw [HF.out, ← HM2.out]; exact HO2.out, ky_trans HZ.out HK2.out⟩
  · clear h0
    have HF : Hid (r = m ++ [116, 114, 117, 101]) := Lib.hid HR.out
    go_wp2_with (at_builtin; go_loud (refine wpList_strK wz rfl _ _ rfl B _ m [116, 114, 117, 101] HOZ.out rfl rfl HBZ.out (by simp; omega) ?_; rintro _ w2 m2 hm h1 ⟨A2, c2', rfl⟩ h2; have HO2 := Lib.hid h1; have HK2 := Lib.hid h2; have HM2 := Lib.hid hm; clear h1 h2 hm))
    go_ret
    exact ⟨_, rfl, by rw [HF.out, ← HM2.out]; exact HO2.out, ky_trans HZ.out HK2.out⟩
  · clear h0
    have HF : Hid (r = m ++ decI nm) := Lib.hid HR.out
    have HD := Lib.hid (decimalR_any nm wz HFN.out.2.1 HFN.out.2.2)
    have hdl : (decI nm).length ≤ 1099511627776 := by have := HL.out; rw [HF.out, List.length_append] at this; omega
    generalize decI nm = u at HF HD hdl
    go_wp2_with fail
    refine HD.out.mono ?_
    rintro x w1 ⟨rfl, hb⟩
    have HO1 := Lib.hid (ownY_below HOZ.out hb)
    have HK1 := Lib.hid (ky_trans HZ.out (ky_of hb HBZ.out))
    have HB1 : Hid (B ≤ w1.heap.size) := Lib.hid (Nat.le_trans HBZ.out hb.size)
    clear hb HD
    go_wp2_with (at_builtin; go_loud (refine wpList_strK w1 rfl _ _ rfl B _ m u HO1.out rfl rfl HB1.out (by omega) ?_; rintro _ w2 m2 hm h1 ⟨A2', c2', rfl⟩ h2; have HO2 := Lib.hid h1; have HK2 := Lib.hid h2; have HM2 := Lib.hid hm; clear h1 h2 hm))
    go_ret
    exact ⟨_, rfl, by rw [HF.out, ← HM2.out]; exact HO2.out, ky_trans HK1.out HK2.out⟩
  · clear h0
    have HF : Hid (r = m ++ quoted te) := Lib.hid HR.out
    have HD := Lib.hid (quotedR_any te wz HFN.out.1.1)
    have hdl : (quoted te).length ≤ 6 * te.length + 2 := quoted_len te
    have htl := HFN.out.1.1
    dsimp only at htl
    generalize quoted te = u at HF HD hdl
    go_wp2_with fail
    refine HD.out.mono ?_
    rintro x w1 ⟨rfl, hb⟩
    have HO1 := Lib.hid (ownY_below HOZ.out hb)
    have HK1 := Lib.hid (ky_trans HZ.out (ky_of hb HBZ.out))
    have HB1 : Hid (B ≤ w1.heap.size) := Lib.hid (Nat.le_trans HBZ.out hb.size)
    clear hb HD
    go_wp2_with (at_builtin; go_loud (refine wpList_strK w1 rfl _ _ rfl B _ m u HO1.out rfl rfl HB1.out (by omega) ?_; rintro _ w2 m2 hm h1 ⟨A2', c2', rfl⟩ h2; have HO2 := Lib.hid h1; have HK2 := Lib.hid h2; have HM2 := Lib.hid hm; clear h1 h2 hm))
    go_ret
    exact ⟨_, rfl, by rw [HF.out, ← HM2.out]; exact HO2.out, ky_trans HK1.out HK2.out⟩
  · clear h0
    have HF : Hid (r = m ++ 91 :: (commas (forms k) ++ [93])) := Lib.hid HR.out
    have HCL : Hid (∀ i, (m ++ 91 :: commas ((forms k).take i)).length ≤ 1099511627776) := Lib.hid (fun i => by
      have h1 := HL.out
      have h2 := commas_take_le (forms k) i
      rw [HF.out] at h1
      simp only [List.length_append, List.length_cons, List.length_nil] at h1 ⊢
      omega)
    have hlk := HLQ.out.1
    go_upto_region 14 with (at_builtin; go_loud (refine wpList_byteK wz rfl _ _ rfl B _ m (91 : UInt8) HOZ.out rfl rfl HBZ.out rfl (by omega) ?_; rintro _ w2 m2 hm h1 ⟨A2', c2', rfl⟩ h2; have HO2 := Lib.hid h1; have HK2 := Lib.hid h2; have HM2 := Lib.hid hm; clear h1 h2 hm))
    clear d0 d1 d2 d3 d4
    go_wp2_with fail
    go_loopw [0, 5] (fun v i wr => ∃ (j : Nat) (mm : List UInt8), j ≤ ni ∧ i = .int .i64 j ∧ Hid (mm = m ++ 91 :: commas ((forms k).take j)) ∧ Hid (OwnY wr B v mm) ∧ Hid (Ky B wz wr)) (fun _ i _ => ni - (intOf i).toNat)
    case atStart => exact ⟨0, m2, by omega, rfl, Lib.hid (by rw [HM2.out]; simp [commas]), HO2, HK2⟩
    case round =>
      clear HO2 HK2
      obtain ⟨q, mm, hq, rfl, HM, HO, HB⟩ := hrel
      obtain ⟨A4, c4, rfl⟩ := ownY_form HO.out
      have HBB := Lib.hid (ky_blk HB.out HBA.out (by decide))
      have HBW : Hid (B ≤ wr.heap.size) := Lib.hid (Nat.le_trans HBZ.out (ky_size HB.out))
      have HBE : Hid (Ky B w wr) := Lib.hid (ky_trans HZ.out HB.out)
      have hmm : mm.length ≤ 1099511627776 := by rw [HM.out]; exact HCL.out q
      have d3 := HBB.out.cell 3
      by_cases hlt : q < ni
      · obtain ⟨ad, rfl, hab, hcs⟩ := HR1.out.2 (by omega)
        obtain ⟨h0, kk, he, hsz, htv⟩ := HTR.out.at_ (i := q) (by have := HNI.out; omega)
        obtain ⟨A5, c5, A6, c6, us2, ecs, htv2⟩ := htv
        have hcs' := fun j u hu => (HBE.out.1.cell (show (ad.add j).block < B by rw [block_of_add]; exact hab)).trans (hcs j u hu)
        obtain ⟨x0, x1, x2, x3, x4⟩ := cells5 hcs' ecs
        have htv3 : TV encJ w S h0 kk (jcells h0 (.slice A5 kk.len c5) (.slice A6 h0.keys.length c6)) := ⟨A5, c5, A6, c6, us2, rfl, htv2⟩
        obtain ⟨y1, y2⟩ := All_at HAL.out.1 he
        obtain ⟨z1, z2⟩ := All_at HAL.out.2 he
        have hwi : wrongs (d + 1) h0 kk = 0 := wrongsF_at (HW5.out (by decide)) he
        have hfe : (forms k)[q]? = some (form h0 kk) := forms_at he
        have HCALL : Hid (∀ (wx : World) (v : Value) (mm r' : List UInt8), Ky B wr wx → OwnY wx B v mm → r' = mm ++ form h0 kk → r'.length ≤ 1099511627776 → Calls Tryz.prog 33 #[v, .agg #[.int .i64 h0.kind, .int .i64 h0.num, .string ⟨h0.text.toArray⟩, .slice A5 kk.len c5, .slice A6 h0.keys.length c6]] wx (FrmP B r' wx)) := Lib.hid (fun wx v mm r' hky ho e1 e2 =>
          HC.out kk.sz (by have := HK.out; omega) (d + 1) h0 kk (.slice A5 kk.len c5) (.slice A6 h0.keys.length c6) S B v mm r' wx (Nat.le_refl _) hwi y1 z1 y2 z2 e1 e2 (htv3.kept fun p hp => (HBE.out.1.trans hky.1).cell (HS.out _ hp)) HS.out (Nat.le_trans HBW.out (ky_size hky)) ho)
        have HNX := Lib.hid (commas_take hfe)
        have HAB := Lib.hid hab
        clear he hsz htv2 htv3 ecs hcs hcs' hab y1 y2 z1 z2 hwi hfe
        by_cases h0q : q = 0
        · have l1 : (0 < (q : Int)) = False := eq_false (by omega)
          have l2 : (0 < q) = False := eq_false (by omega)
          have HNR : Hid (mm ++ form h0 kk = m ++ 91 :: commas ((forms k).take (q + 1))) := Lib.hid (by rw [HM.out, HNX.out, if_pos h0q, h0q]; simp [commas])
          have HCF := Lib.hid (HCALL.out wr _ mm _ (ky_refl _ _) HO.out rfl (by rw [HNR.out]; exact HCL.out _))
          clear h0q HCALL
          generalize form h0 kk = u at HNR HCF
          go_wp2_with fail
          refine HCF.out.mono ?_
          rintro x w4 ⟨v4, rfl, hO4, hK4⟩
          have HO4 := Lib.hid hO4
          have HK4 : Hid (Ky B wz w4) := Lib.hid (ky_trans HB.out hK4)
          clear hO4 hK4 HCF x0 x1 x2 x3 x4 d3
          go_wp2_with fail
          go_roundw
          case rel => exact ⟨q + 1, _, by omega, by go_num, HNR, HO4, HK4⟩
          case measure => simp [intOf]; omega
        · have l1 : (0 < (q : Int)) = True := eq_true (by omega)
          have l2 : (0 < q) = True := eq_true (by omega)
          have HNR : Hid (mm ++ [44] ++ form h0 kk = m ++ 91 :: commas ((forms k).take (q + 1))) := Lib.hid (by rw [HM.out, HNX.out, if_neg h0q]; simp)
          clear h0q
          go_upto_region 19 with (at_builtin; go_loud (refine wpList_byteK wr rfl _ _ rfl B _ mm (44 : UInt8) HO.out rfl rfl HBW.out rfl (by omega) ?_; rintro _ w3 m3 hm h1 ⟨A3', c3', rfl⟩ h2; have HO3 := Lib.hid h1; have HK3 := Lib.hid h2; have HM3 := Lib.hid hm; clear h1 h2 hm))
          have HCF := Lib.hid (HCALL.out w3 _ m3 _ HK3.out HO3.out rfl (by rw [HM3.out, HNR.out]; exact HCL.out _))
          have HNR3 : Hid (m3 ++ form h0 kk = m ++ 91 :: commas ((forms k).take (q + 1))) := Lib.hid (by rw [HM3.out]; exact HNR.out)
          have HB3 := Lib.hid (ky_blk HK3.out HBB.out (by decide))
          have e3 := HB3.out.cell 3
          have g0 := (HK3.out.1.cell (p := ad.add (q * 5)) (by rw [block_of_add]; exact HAB.out)).trans x0
          have g1 := (HK3.out.1.cell (p := ⟨(ad.add (q * 5)).block, (ad.add (q * 5)).off + 1, none⟩) (by show (ad.add (q * 5)).block < B; rw [block_of_add]; exact HAB.out)).trans x1
          have g2 := (HK3.out.1.cell (p := ⟨(ad.add (q * 5)).block, (ad.add (q * 5)).off + 2, none⟩) (by show (ad.add (q * 5)).block < B; rw [block_of_add]; exact HAB.out)).trans x2
          have g3 := (HK3.out.1.cell (p := ⟨(ad.add (q * 5)).block, (ad.add (q * 5)).off + 3, none⟩) (by show (ad.add (q * 5)).block < B; rw [block_of_add]; exact HAB.out)).trans x3
          have g4 := (HK3.out.1.cell (p := ⟨(ad.add (q * 5)).block, (ad.add (q * 5)).off + 4, none⟩) (by show (ad.add (q * 5)).block < B; rw [block_of_add]; exact HAB.out)).trans x4
          clear HCALL x0 x1 x2 x3 x4 d3 HNR
          generalize form h0 kk = u at HNR3 HCF
          go_wp2_with fail
          refine HCF.out.mono ?_
          rintro x w4 ⟨v4, rfl, hO4, hK4⟩
          have HO4 := Lib.hid hO4
          have HK4 : Hid (Ky B wz w4) := Lib.hid (ky_trans HB.out (ky_trans HK3.out hK4))
          clear hO4 hK4 HCF g0 g1 g2 g3 g4 e3
          go_wp2_with fail
          go_roundw
          case rel => exact ⟨q + 1, _, by omega, by go_num, HNR3, HO4, HK4⟩
          case measure => simp [intOf]; omega
      · have HQN : Hid (r = mm ++ [93]) := Lib.hid (by rw [HF.out, HM.out, show q = (forms k).length by rw [forms_len, ← HNI.out]; omega, List.take_length]; simp)
        go_wp2_with (at_builtin; go_loud (refine wpList_byteK wr rfl _ _ rfl B _ mm (93 : UInt8) HO.out rfl rfl HBW.out rfl (by omega) ?_; rintro _ w3 m3 hm h1 ⟨A3', c3', rfl⟩ h2; have HO3 := Lib.hid h1; have HK3 := Lib.hid h2; have HM3 := Lib.hid hm; clear h1 h2 hm))
        go_ret
        exact ⟨_, rfl, by rw [HQN.out, ← HM3.out]; exact HO3.out, ky_trans HBE.out HK3.out⟩
  · have HDUP : Hid (ks.Nodup) := Lib.hid (nodup_of_dupL (h0.2.2.2.2.2 rfl).2)
    have hkl : nk = ni := h0.2.2.2.1 rfl
    have HKL := Lib.hid hkl
    clear h0 hkl
    have HF : Hid (r = m ++ 123 :: (commas ((sortK (ks.zip (forms k))).map member) ++ [125])) := Lib.hid HR.out
    have HCL : Hid (∀ i, (m ++ 123 :: commas (((sortK (ks.zip (forms k))).map member).take i)).length ≤ 1099511627776) := Lib.hid (fun i => by
      have h1 := HL.out
      have h2 := commas_take_le ((sortK (ks.zip (forms k))).map member) i
      rw [HF.out] at h1
      simp only [List.length_append, List.length_cons, List.length_nil] at h1 ⊢
      omega)
    have hlk := HLQ.out.2
    have HRI := Lib.hid (rising_any ks A2 nk c2 wz ((HR2.out.below HZ.out.1).more HBZ.out) hlk)
    go_wp2_with fail
    refine HRI.out.mono ?_
    rintro x w1 ⟨v6, p, rfl, hris, hown, hb1⟩
    obtain ⟨A7, c7, rfl, _⟩ := own_readsN hown
    have HRIS := Lib.hid hris
    have HOW := Lib.hid hown
    have HK1 : Hid (Ky B wz w1) := Lib.hid (ky_of hb1 HBZ.out)
    have HO1 := Lib.hid (ownY_below HOZ.out hb1)
    have HB1 : Hid (B ≤ w1.heap.size) := Lib.hid (Nat.le_trans HBZ.out hb1.size)
    clear hris hown hb1 HRI
    go_upto_region 23 with (at_builtin; go_loud (refine wpList_byteK w1 rfl _ _ rfl B _ m (123 : UInt8) HO1.out rfl rfl HB1.out rfl (by omega) ?_; rintro _ w2 m2 hm h1 ⟨A2', c2', rfl⟩ h2; have HO2 := Lib.hid h1; have HK2 := Lib.hid h2; have HM2 := Lib.hid hm; clear h1 h2 hm))
    clear d0 d1 d2 d3 d4
    go_wp2_with fail
    go_loopw [0, 7] (fun v i wr => ∃ (j : Nat) (mm : List UInt8), j ≤ nk ∧ i = .int .i64 j ∧ Hid (mm = m ++ 123 :: commas (((sortK (ks.zip (forms k))).map member).take j)) ∧ Hid (OwnY wr B v mm) ∧ Hid (Ky B w1 wr)) (fun _ i _ => nk - (intOf i).toNat)
    case atStart => exact ⟨0, m2, by omega, rfl, Lib.hid (by rw [HM2.out]; simp [commas]), HO2, HK2⟩
    case round =>
      clear HO2 HK2
      obtain ⟨j, mm, hj, rfl, HM, HO, HB⟩ := hrel
      obtain ⟨A4, c4, rfl⟩ := ownY_form HO.out
      have HBB := Lib.hid (ky_blk (ky_trans HK1.out HB.out) HBA.out (by decide))
      have HBW : Hid (B ≤ wr.heap.size) := Lib.hid (Nat.le_trans HB1.out (ky_size HB.out))
      have HBE : Hid (Ky B w wr) := Lib.hid (ky_trans HZ.out (ky_trans HK1.out HB.out))
      have hmm : mm.length ≤ 1099511627776 := by rw [HM.out]; exact HCL.out j
      by_cases hlt : j < nk
      · have HOI := Lib.hid (ky_own HB.out HOW.out (by decide))
        obtain ⟨q, hpq⟩ : ∃ q, p[j]? = some q := ⟨_, List.getElem?_eq_getElem (by rw [HRIS.out.len]; exact hlt)⟩
        have hqn : q < nk := HRIS.out.lt (List.mem_of_getElem? hpq)
        have hqi : q < ni := by have := HKL.out; omega
        obtain ⟨x', y', hxq, hyq, hsq⟩ := ris_at HDUP.out (by rw [forms_len, ← HNK.out, ← HNI.out]; exact HKL.out) (by rw [← HNK.out]; exact HRIS.out) hpq
        obtain ⟨ad7, u7, rfl, _, hu7, hc7⟩ := (Reads.of_own HOI.out).at_ hlt
        have e7 : u7 = .int .i64 (q : Nat) := by
          rw [ints, List.getElem?_map, hpq] at hu7
          exact (Option.some.inj hu7).symm
        subst e7
        obtain ⟨ad2, u2, rfl, hb2, hu2, hc2⟩ := (HR2.out.below HBE.out.1).at_ hqn
        obtain rfl := tx_get hu2 (by rw [← HNK.out]; exact hqn)
        have hkx : x' = ks.getD q [] := by simp [List.getD, hxq]
        have hkm : (ks.getD q []).length ≤ 4398046511104 := HFN.out.1.2 _ (by rw [← hkx]; exact List.mem_of_getElem? hxq)
        subst hkx
        obtain ⟨ad, rfl, hab, hcs⟩ := HR1.out.2 (by have := HKL.out; omega)
        obtain ⟨h0, kk, he, hsz, htv⟩ := HTR.out.at_ (i := q) (by have := HNI.out; have := HKL.out; omega)
        obtain ⟨A5, c5, A6, c6, us2, ecs, htv2⟩ := htv
        have hcs' := fun j u hu => (HBE.out.1.cell (show (ad.add j).block < B by rw [block_of_add]; exact hab)).trans (hcs j u hu)
        obtain ⟨x0, x1, x2, x3, x4⟩ := cells5 hcs' ecs
        have htv3 : TV encJ w S h0 kk (jcells h0 (.slice A5 kk.len c5) (.slice A6 h0.keys.length c6)) := ⟨A5, c5, A6, c6, us2, rfl, htv2⟩
        obtain ⟨y1, y2⟩ := All_at HAL.out.1 he
        obtain ⟨z1, z2⟩ := All_at HAL.out.2 he
        have hwi : wrongs (d + 1) h0 kk = 0 := wrongsF_at (HW5.out (by decide)) he
        have hfe : (forms k)[q]? = some (form h0 kk) := forms_at he
        have HCALL : Hid (∀ (wx : World) (v : Value) (mm r' : List UInt8), Ky B wr wx → OwnY wx B v mm → r' = mm ++ form h0 kk → r'.length ≤ 1099511627776 → Calls Tryz.prog 33 #[v, .agg #[.int .i64 h0.kind, .int .i64 h0.num, .string ⟨h0.text.toArray⟩, .slice A5 kk.len c5, .slice A6 h0.keys.length c6]] wx (FrmP B r' wx)) := Lib.hid (fun wx v mm r' hky ho e1 e2 =>
          HC.out kk.sz (by have := HK.out; omega) (d + 1) h0 kk (.slice A5 kk.len c5) (.slice A6 h0.keys.length c6) S B v mm r' wx (Nat.le_refl _) hwi y1 z1 y2 z2 e1 e2 (htv3.kept fun p hp => (HBE.out.1.trans hky.1).cell (HS.out _ hp)) HS.out (Nat.le_trans HBW.out (ky_size hky)) ho)
        obtain rfl : y' = form h0 kk := by rw [hfe] at hyq; exact (Option.some.inj hyq).symm
        have HNX := Lib.hid (commas_take (i := j) (x := member (ks.getD q [], form h0 kk)) (by rw [List.getElem?_map, hsq]; rfl))
        have HAB := Lib.hid hab
        have HB2 := Lib.hid hb2
        have d3 := HBB.out.cell 3
        have d4 := HBB.out.cell 4
        have HQT : Hid (∀ wx, _) := Lib.hid (fun wx => quotedR_any (ks.getD q []) wx hkm)
        have hql := quoted_len (ks.getD q [])
        generalize ks.getD q [] = key at hc2 hkm HNX HQT hql
        have HSK : Hid (∀ wy, Ky B wr wy → (fun wy => wy.cell? ⟨w.heap.size, 4, none⟩ = some (.slice (some ad2) nk c2) ∧ wy.cell? ⟨w.heap.size, 3, none⟩ = some (.slice (some ad) ni c1) ∧ wy.cell? (ad7.add j) = some (.int .i64 (q : Nat)) ∧ wy.cell? (ad2.add q) = some (.string ⟨key.toArray⟩) ∧ wy.cell? (ad.add (q * 5)) = some (.int .i64 h0.kind) ∧ wy.cell? ⟨(ad.add (q * 5)).block, (ad.add (q * 5)).off + 1, none⟩ = some (.int .i64 h0.num) ∧ wy.cell? ⟨(ad.add (q * 5)).block, (ad.add (q * 5)).off + 2, none⟩ = some (.string ⟨h0.text.toArray⟩) ∧ wy.cell? ⟨(ad.add (q * 5)).block, (ad.add (q * 5)).off + 3, none⟩ = some (.slice A5 kk.len c5) ∧ wy.cell? ⟨(ad.add (q * 5)).block, (ad.add (q * 5)).off + 4, none⟩ = some (.slice A6 h0.keys.length c6)) wy) := Lib.hid (fun wy hk => by
          have k3 := (ky_blk hk HBB.out (by decide)).cell 3
          have k4 := (ky_blk hk HBB.out (by decide)).cell 4
          have k7 := (ky_cell hk HOI.out (by decide) j).trans hc7
          have k2 := (hk.1.cell (p := ad2.add q) (by rw [block_of_add]; exact hb2)).trans hc2
          have g0 := ((Lib.hid hk).out.1.cell (p := ad.add (q * 5)) (by rw [block_of_add]; exact hab)).trans x0
          have g1 := ((Lib.hid hk).out.1.cell (p := ⟨(ad.add (q * 5)).block, (ad.add (q * 5)).off + 1, none⟩) (by show (ad.add (q * 5)).block < B; rw [block_of_add]; exact hab)).trans x1
          have g2 := ((Lib.hid hk).out.1.cell (p := ⟨(ad.add (q * 5)).block, (ad.add (q * 5)).off + 2, none⟩) (by show (ad.add (q * 5)).block < B; rw [block_of_add]; exact hab)).trans x2
          have g3 := ((Lib.hid hk).out.1.cell (p := ⟨(ad.add (q * 5)).block, (ad.add (q * 5)).off + 3, none⟩) (by show (ad.add (q * 5)).block < B; rw [block_of_add]; exact hab)).trans x3
          have g4 := ((Lib.hid hk).out.1.cell (p := ⟨(ad.add (q * 5)).block, (ad.add (q * 5)).off + 4, none⟩) (by show (ad.add (q * 5)).block < B; rw [block_of_add]; exact hab)).trans x4
          exact ⟨k4, k3, k7, k2, g0, g1, g2, g3, g4⟩)
        clear he hsz htv2 htv3 ecs hcs hcs' hab y1 y2 z1 z2 hwi hfe hpq hxq hyq hsq hu7 hu2 hb2 hc2 hc7 x0 x1 x2 x3 x4
        by_cases h0q : j = 0
        · have l1 : (0 < (j : Int)) = False := eq_false (by omega)
          have l2 : (0 < j) = False := eq_false (by omega)
          have HNR : Hid (mm ++ member (key, form h0 kk) = m ++ 123 :: commas (((sortK (ks.zip (forms k))).map member).take (j + 1))) := Lib.hid (by rw [HM.out, HNX.out, if_pos h0q, h0q]; simp [commas])
          have HK0 : Hid (Ky B wr wr) := Lib.hid (ky_refl _ _)
          clear h0q d3 d4
          go_upto_region 28 with fail
          refine wp_region_held_drew (S := (fun wy => wy.cell? ⟨w.heap.size, 4, none⟩ = some (.slice (some ad2) nk c2) ∧ wy.cell? ⟨w.heap.size, 3, none⟩ = some (.slice (some ad) ni c1) ∧ wy.cell? (ad7.add j) = some (.int .i64 (q : Nat)) ∧ wy.cell? (ad2.add q) = some (.string ⟨key.toArray⟩) ∧ wy.cell? (ad.add (q * 5)) = some (.int .i64 h0.kind) ∧ wy.cell? ⟨(ad.add (q * 5)).block, (ad.add (q * 5)).off + 1, none⟩ = some (.int .i64 h0.num) ∧ wy.cell? ⟨(ad.add (q * 5)).block, (ad.add (q * 5)).off + 2, none⟩ = some (.string ⟨h0.text.toArray⟩) ∧ wy.cell? ⟨(ad.add (q * 5)).block, (ad.add (q * 5)).off + 3, none⟩ = some (.slice A5 kk.len c5) ∧ wy.cell? ⟨(ad.add (q * 5)).block, (ad.add (q * 5)).off + 4, none⟩ = some (.slice A6 h0.keys.length c6))) (by kernel_rfl) (HSK.out _ ⟨HK0.out.1.drew, HK0.out.2⟩) (fun hHeld => ?_)
          refine wpAnyH_take (i := 0) (oi := { dst := some 80, op := Op.move (Operand.tmp 0), type := 74, pos := "ref.go:201", after := #[], guard := none }) (v := ?_) rfl (by kernel_rfl) (by kernel_rfl) (by kernel_rfl) (fun _ _ _ h => h) (Or.inl ⟨by rfl, ?_⟩) (by assumption) ?_
          rotate_left
          · (intro w hSw; (try dsimp only at hSw); go_simp; try with_reducible rfl)
          try simp only [Act.put, List.setIfInBounds_toArray, List.set_cons_zero, List.set_cons_succ]
          refine wpAnyH_take (i := 1) (oi := { dst := some 81, op := Op.fieldAddr 25 (Operand.tmp 3) 4, type := 0, pos := "ref.go:201", after := #[], guard := none }) (v := ?_) rfl (by kernel_rfl) (by kernel_rfl) (by kernel_rfl) (fun _ _ _ h => h) (Or.inl ⟨by rfl, ?_⟩) (by assumption) ?_
          rotate_left
          · (intro w hSw; (try dsimp only at hSw); go_simp; try with_reducible rfl)
          try simp only [Act.put, List.setIfInBounds_toArray, List.set_cons_zero, List.set_cons_succ]
          refine wpAnyH_take (i := 2) (oi := { dst := some 82, op := Op.load 23 (Operand.tmp 81), type := 23, pos := "ref.go:201", after := #[{ on := 1, ground := Ground.data }], guard := none }) (v := ?_) rfl (by kernel_rfl) (by kernel_rfl) (by kernel_rfl) (fun _ _ _ h => h) (Or.inl ⟨by rfl, ?_⟩) (by assumption) ?_
          rotate_left
          · (intro w hSw; (try dsimp only at hSw); go_simp; try with_reducible rfl)
          try simp only [Act.put, List.setIfInBounds_toArray, List.set_cons_zero, List.set_cons_succ]
          refine wpAnyH_take (i := 3) (oi := { dst := some 83, op := Op.move (Operand.tmp 6), type := 150, pos := "ref.go:201", after := #[], guard := none }) (v := ?_) rfl (by kernel_rfl) (by kernel_rfl) (by kernel_rfl) (fun _ _ _ h => h) (Or.inl ⟨by rfl, ?_⟩) (by assumption) ?_
          rotate_left
          · (intro w hSw; (try dsimp only at hSw); go_simp; try with_reducible rfl)
          try simp only [Act.put, List.setIfInBounds_toArray, List.set_cons_zero, List.set_cons_succ]
          refine wpAnyH_take (i := 4) (oi := { dst := some 84, op := Op.move (Operand.tmp 7), type := 3, pos := "ref.go:201", after := #[], guard := none }) (v := ?_) rfl (by kernel_rfl) (by kernel_rfl) (by kernel_rfl) (fun _ _ _ h => h) (Or.inl ⟨by rfl, ?_⟩) (by assumption) ?_
          rotate_left
          · (intro w hSw; (try dsimp only at hSw); go_simp; try with_reducible rfl)
          try simp only [Act.put, List.setIfInBounds_toArray, List.set_cons_zero, List.set_cons_succ]
          refine wpAnyH_take (i := 5) (oi := { dst := some 85, op := Op.indexAddr 150 (Operand.tmp 83) (Operand.tmp 84), type := 0, pos := "ref.go:201", after := #[{ on := 3, ground := Ground.data }, { on := 4, ground := Ground.data }], guard := none }) (v := ?_) rfl (by kernel_rfl) (by kernel_rfl) (by kernel_rfl) (fun _ _ _ h => h) (Or.inl ⟨by rfl, ?_⟩) (by assumption) ?_
          rotate_left
          · (intro w hSw; (try dsimp only at hSw); go_simp; try with_reducible rfl)
          try simp only [Act.put, List.setIfInBounds_toArray, List.set_cons_zero, List.set_cons_succ]
          refine wpAnyH_take (i := 6) (oi := { dst := some 86, op := Op.load 3 (Operand.tmp 85), type := 3, pos := "ref.go:201", after := #[{ on := 5, ground := Ground.data }], guard := none }) (v := ?_) rfl (by kernel_rfl) (by kernel_rfl) (by kernel_rfl) (fun _ _ _ h => h) (Or.inl ⟨by rfl, ?_⟩) (by assumption) ?_
          rotate_left
          · (intro w hSw; (try dsimp only at hSw); go_simp; try with_reducible rfl)
          try simp only [Act.put, List.setIfInBounds_toArray, List.set_cons_zero, List.set_cons_succ]
          refine wpAnyH_take (i := 7) (oi := { dst := some 87, op := Op.indexAddr 23 (Operand.tmp 82) (Operand.tmp 86), type := 0, pos := "ref.go:201", after := #[{ on := 2, ground := Ground.data }, { on := 6, ground := Ground.data }], guard := none }) (v := ?_) rfl (by kernel_rfl) (by kernel_rfl) (by kernel_rfl) (fun _ _ _ h => h) (Or.inl ⟨by rfl, ?_⟩) (by assumption) ?_
          rotate_left
          · (intro w hSw; (try dsimp only at hSw); go_simp; try with_reducible rfl)
          try simp only [Act.put, List.setIfInBounds_toArray, List.set_cons_zero, List.set_cons_succ]
          refine wpAnyH_take (i := 8) (oi := { dst := some 88, op := Op.load 9 (Operand.tmp 87), type := 9, pos := "ref.go:201", after := #[{ on := 7, ground := Ground.data }], guard := none }) (v := ?_) rfl (by kernel_rfl) (by kernel_rfl) (by kernel_rfl) (fun _ _ _ h => h) (Or.inl ⟨by rfl, ?_⟩) (by assumption) ?_
          rotate_left
          · (intro w hSw; (try dsimp only at hSw); go_simp; try with_reducible rfl)
          try simp only [Act.put, List.setIfInBounds_toArray, List.set_cons_zero, List.set_cons_succ]
          refine wpAnyH_ready (rs := [9]) (by kernel_rfl) (by simp) ?_
          refine AllReadyH.cons (o := { dst := some 89, op := Op.call { callee := Callee.value (Operand.func 86), args := #[Operand.tmp 88], argTypes := #[9] }, type := 9, pos := "ref.go:201", after := #[{ on := 8, ground := Ground.data }], guard := none }) rfl (fun K hK => ?_) AllReadyH.nil
          rw [if_pos (by rfl)]
          go_simp
          refine (HQT.out _).mono ?_
          rintro x wn ⟨rfl, hbn⟩
          have hbn := ((Below.refl (wr).heap.size wr).drew).trans hbn
          have HBw : Hid (B ≤ (wr).heap.size) := Lib.hid (Nat.le_trans HBW.out (ky_size HK0.out))
          have HOn := Lib.hid (ownY_below HO.out hbn)
          have HKn : Hid (Ky B wr wn) := Lib.hid (ky_trans HK0.out (ky_of hbn HBw.out))
          have HBn : Hid (B ≤ wn.heap.size) := Lib.hid (Nat.le_trans HBw.out hbn.size)
          refine hK.out _ _ (HSK.out _ HKn.out) (fun _ => ?_)
          clear hK hbn
          try simp only [Act.put, List.setIfInBounds_toArray, List.set_cons_zero, List.set_cons_succ]
          refine wpAnyH_ready (rs := [10]) (by kernel_rfl) (by simp) ?_
          refine AllReadyH.cons (o := { dst := some 90, op := Op.call { callee := Callee.builtin Builtin.append, args := #[Operand.tmp 80, Operand.tmp 89], argTypes := #[74, 9] }, type := 74, pos := "ref.go:201", after := #[{ on := 0, ground := Ground.data }, { on := 9, ground := Ground.data }, { on := 9, ground := Ground.chain }], guard := none }) rfl (fun K hK => ?_) AllReadyH.nil
          rw [if_pos (by rfl)]
          refine wp_strK wn _ _ rfl B _ mm (quoted key) HOn.out rfl rfl HBn.out (by omega) ?_
          rintro _ w5 m5 hm h1 ⟨A9, c9, rfl⟩ h3
          have HO5 := Lib.hid h1
          have HK5 : Hid (Ky B wr w5) := Lib.hid (ky_trans HKn.out h3)
          have HM5 := Lib.hid hm
          have hm5 : m5.length ≤ 70368744177664 := by rw [hm, List.length_append]; omega
          have HB5 : Hid (B ≤ w5.heap.size) := Lib.hid (Nat.le_trans HBW.out (ky_size HK5.out))
          refine hK.out _ _ (HSK.out _ HK5.out) (fun _ => ?_)
          clear hK hm h1 h3
          try simp only [Act.put, List.setIfInBounds_toArray, List.set_cons_zero, List.set_cons_succ]
          refine wpAnyH_take (i := 11) (oi := { dst := some 0, op := Op.assign (Operand.tmp 90), type := 74, pos := "ref.go:201", after := #[{ on := 10, ground := Ground.data }, { on := 10, ground := Ground.chain }, { on := 0, ground := Ground.phase }, { on := 1, ground := Ground.phase }, { on := 2, ground := Ground.phase }, { on := 3, ground := Ground.phase }, { on := 4, ground := Ground.phase }, { on := 5, ground := Ground.phase }, { on := 6, ground := Ground.phase }, { on := 7, ground := Ground.phase }, { on := 8, ground := Ground.phase }, { on := 9, ground := Ground.phase }, { on := 10, ground := Ground.phase }], guard := none }) (v := ?_) rfl (by kernel_rfl) (by kernel_rfl) (by kernel_rfl) (fun _ _ _ h => h) (Or.inl ⟨by rfl, ?_⟩) (by assumption) ?_
          rotate_left
          · (intro w hSw; (try dsimp only at hSw); go_simp; try with_reducible rfl)
          try simp only [Act.put, List.setIfInBounds_toArray, List.set_cons_zero]
          refine wpAnyH_done (by kernel_rfl) ?_ _
          go_upto_region 30 with (at_builtin; go_loud (refine wpList_byteK w5 rfl _ _ rfl B _ m5 (58 : UInt8) HO5.out rfl rfl HB5.out rfl (by omega) ?_; rintro _ w6 m6 hm h1 ⟨A6', c6', rfl⟩ h2; have HO6 := Lib.hid h1; have HK6 := Lib.hid (ky_trans HK5.out h2); have HM6 := Lib.hid hm; clear h1 h2 hm))
          have HNR6 : Hid (m6 ++ form h0 kk = m ++ 123 :: commas (((sortK (ks.zip (forms k))).map member).take (j + 1))) := Lib.hid (by rw [HM6.out, HM5.out, ← HNR.out]; simp [member])
          have HCF : Hid (∀ wx, Ky B wr wx → OwnY wx B (.slice A6' m6.length c6') m6 → _) := Lib.hid (fun wx hk ho => HCALL.out wx _ m6 _ hk ho rfl (by rw [HNR6.out]; exact HCL.out _))
          generalize form h0 kk = u at HNR6 HCF
          refine wp_region_held_drew (S := (fun wy => wy.cell? ⟨w.heap.size, 4, none⟩ = some (.slice (some ad2) nk c2) ∧ wy.cell? ⟨w.heap.size, 3, none⟩ = some (.slice (some ad) ni c1) ∧ wy.cell? (ad7.add j) = some (.int .i64 (q : Nat)) ∧ wy.cell? (ad2.add q) = some (.string ⟨key.toArray⟩) ∧ wy.cell? (ad.add (q * 5)) = some (.int .i64 h0.kind) ∧ wy.cell? ⟨(ad.add (q * 5)).block, (ad.add (q * 5)).off + 1, none⟩ = some (.int .i64 h0.num) ∧ wy.cell? ⟨(ad.add (q * 5)).block, (ad.add (q * 5)).off + 2, none⟩ = some (.string ⟨h0.text.toArray⟩) ∧ wy.cell? ⟨(ad.add (q * 5)).block, (ad.add (q * 5)).off + 3, none⟩ = some (.slice A5 kk.len c5) ∧ wy.cell? ⟨(ad.add (q * 5)).block, (ad.add (q * 5)).off + 4, none⟩ = some (.slice A6 h0.keys.length c6))) (by kernel_rfl) (HSK.out _ ⟨HK6.out.1.drew, HK6.out.2⟩) (fun hHeld => ?_)
          refine wpAnyH_take (i := 0) (oi := { dst := some 94, op := Op.move (Operand.tmp 0), type := 74, pos := "ref.go:203", after := #[], guard := none }) (v := ?_) rfl (by kernel_rfl) (by kernel_rfl) (by kernel_rfl) (fun _ _ _ h => h) (Or.inl ⟨by rfl, ?_⟩) (by assumption) ?_
          rotate_left
          · (intro w hSw; (try dsimp only at hSw); go_simp; try with_reducible rfl)
          try simp only [Act.put, List.setIfInBounds_toArray, List.set_cons_zero, List.set_cons_succ]
          refine wpAnyH_take (i := 1) (oi := { dst := some 95, op := Op.fieldAddr 25 (Operand.tmp 3) 3, type := 0, pos := "ref.go:203", after := #[], guard := none }) (v := ?_) rfl (by kernel_rfl) (by kernel_rfl) (by kernel_rfl) (fun _ _ _ h => h) (Or.inl ⟨by rfl, ?_⟩) (by assumption) ?_
          rotate_left
          · (intro w hSw; (try dsimp only at hSw); go_simp; try with_reducible rfl)
          try simp only [Act.put, List.setIfInBounds_toArray, List.set_cons_zero, List.set_cons_succ]
          refine wpAnyH_take (i := 2) (oi := { dst := some 96, op := Op.load 22 (Operand.tmp 95), type := 22, pos := "ref.go:203", after := #[{ on := 1, ground := Ground.data }], guard := none }) (v := ?_) rfl (by kernel_rfl) (by kernel_rfl) (by kernel_rfl) (fun _ _ _ h => h) (Or.inl ⟨by rfl, ?_⟩) (by assumption) ?_
          rotate_left
          · (intro w hSw; (try dsimp only at hSw); go_simp; try with_reducible rfl)
          try simp only [Act.put, List.setIfInBounds_toArray, List.set_cons_zero, List.set_cons_succ]
          refine wpAnyH_take (i := 3) (oi := { dst := some 97, op := Op.move (Operand.tmp 6), type := 150, pos := "ref.go:203", after := #[], guard := none }) (v := ?_) rfl (by kernel_rfl) (by kernel_rfl) (by kernel_rfl) (fun _ _ _ h => h) (Or.inl ⟨by rfl, ?_⟩) (by assumption) ?_
          rotate_left
          · (intro w hSw; (try dsimp only at hSw); go_simp; try with_reducible rfl)
          try simp only [Act.put, List.setIfInBounds_toArray, List.set_cons_zero, List.set_cons_succ]
          refine wpAnyH_take (i := 4) (oi := { dst := some 98, op := Op.move (Operand.tmp 7), type := 3, pos := "ref.go:203", after := #[], guard := none }) (v := ?_) rfl (by kernel_rfl) (by kernel_rfl) (by kernel_rfl) (fun _ _ _ h => h) (Or.inl ⟨by rfl, ?_⟩) (by assumption) ?_
          rotate_left
          · (intro w hSw; (try dsimp only at hSw); go_simp; try with_reducible rfl)
          try simp only [Act.put, List.setIfInBounds_toArray, List.set_cons_zero, List.set_cons_succ]
          refine wpAnyH_take (i := 5) (oi := { dst := some 99, op := Op.indexAddr 150 (Operand.tmp 97) (Operand.tmp 98), type := 0, pos := "ref.go:203", after := #[{ on := 3, ground := Ground.data }, { on := 4, ground := Ground.data }], guard := none }) (v := ?_) rfl (by kernel_rfl) (by kernel_rfl) (by kernel_rfl) (fun _ _ _ h => h) (Or.inl ⟨by rfl, ?_⟩) (by assumption) ?_
          rotate_left
          · (intro w hSw; (try dsimp only at hSw); go_simp; try with_reducible rfl)
          try simp only [Act.put, List.setIfInBounds_toArray, List.set_cons_zero, List.set_cons_succ]
          refine wpAnyH_take (i := 6) (oi := { dst := some 100, op := Op.load 3 (Operand.tmp 99), type := 3, pos := "ref.go:203", after := #[{ on := 5, ground := Ground.data }], guard := none }) (v := ?_) rfl (by kernel_rfl) (by kernel_rfl) (by kernel_rfl) (fun _ _ _ h => h) (Or.inl ⟨by rfl, ?_⟩) (by assumption) ?_
          rotate_left
          · (intro w hSw; (try dsimp only at hSw); go_simp; try with_reducible rfl)
          try simp only [Act.put, List.setIfInBounds_toArray, List.set_cons_zero, List.set_cons_succ]
          refine wpAnyH_take (i := 7) (oi := { dst := some 101, op := Op.indexAddr 22 (Operand.tmp 96) (Operand.tmp 100), type := 0, pos := "ref.go:203", after := #[{ on := 2, ground := Ground.data }, { on := 6, ground := Ground.data }], guard := none }) (v := ?_) rfl (by kernel_rfl) (by kernel_rfl) (by kernel_rfl) (fun _ _ _ h => h) (Or.inl ⟨by rfl, ?_⟩) (by assumption) ?_
          rotate_left
          · (intro w hSw; (try dsimp only at hSw); go_simp; try with_reducible rfl)
          try simp only [Act.put, List.setIfInBounds_toArray, List.set_cons_zero, List.set_cons_succ]
          refine wpAnyH_take (i := 8) (oi := { dst := some 102, op := Op.load 25 (Operand.tmp 101), type := 25, pos := "ref.go:203", after := #[{ on := 7, ground := Ground.data }], guard := none }) (v := ?_) rfl (by kernel_rfl) (by kernel_rfl) (by kernel_rfl) (fun _ _ _ h => h) (Or.inl ⟨by rfl, ?_⟩) (by assumption) ?_
          rotate_left
          · (intro w hSw; (try dsimp only at hSw); go_simp; try with_reducible rfl)
          try simp only [Act.put, List.setIfInBounds_toArray, List.set_cons_zero, List.set_cons_succ]
          refine wpAnyH_ready (rs := [9]) (by kernel_rfl) (by simp) ?_
          refine AllReadyH.cons (o := { dst := some 103, op := Op.call { callee := Callee.value (Operand.func 33), args := #[Operand.tmp 94, Operand.tmp 102], argTypes := #[74, 25] }, type := 74, pos := "ref.go:203", after := #[{ on := 0, ground := Ground.data }, { on := 8, ground := Ground.data }], guard := none }) rfl (fun K hK => ?_) AllReadyH.nil
          rw [if_pos (by rfl)]
          go_simp
          refine (HCF.out _ ⟨HK6.out.1.drew, HK6.out.2⟩ HO6.out).mono ?_
          rintro x w7 ⟨v7, rfl, hO7, hK7⟩
          have HO7 := Lib.hid hO7
          have HK7 : Hid (Ky B wr w7) := Lib.hid (ky_trans ⟨HK6.out.1.drew, HK6.out.2⟩ hK7)
          refine hK.out _ _ (HSK.out _ HK7.out) (fun _ => ?_)
          clear hK hO7 hK7
          try simp only [Act.put, List.setIfInBounds_toArray, List.set_cons_zero, List.set_cons_succ]
          refine wpAnyH_take (i := 10) (oi := { dst := some 0, op := Op.assign (Operand.tmp 103), type := 74, pos := "ref.go:203", after := #[{ on := 9, ground := Ground.data }, { on := 9, ground := Ground.chain }, { on := 0, ground := Ground.phase }, { on := 1, ground := Ground.phase }, { on := 2, ground := Ground.phase }, { on := 3, ground := Ground.phase }, { on := 4, ground := Ground.phase }, { on := 5, ground := Ground.phase }, { on := 6, ground := Ground.phase }, { on := 7, ground := Ground.phase }, { on := 8, ground := Ground.phase }, { on := 9, ground := Ground.phase }], guard := none }) (v := ?_) rfl (by kernel_rfl) (by kernel_rfl) (by kernel_rfl) (fun _ _ _ h => h) (Or.inl ⟨by rfl, ?_⟩) (by assumption) ?_
          rotate_left
          · (intro w hSw; (try dsimp only at hSw); go_simp; try with_reducible rfl)
          try simp only [Act.put, List.setIfInBounds_toArray, List.set_cons_zero]
          refine wpAnyH_done (by kernel_rfl) ?_ _
          have HKE : Hid (Ky B w1 w7) := Lib.hid (ky_trans HB.out HK7.out)
          go_wp2_with fail
          go_roundw
          case rel => exact ⟨j + 1, _, by omega, by go_num, HNR6, HO7, HKE⟩
          case measure => simp [intOf]; omega
        · have l1 : (0 < (j : Int)) = True := eq_true (by omega)
          have l2 : (0 < j) = True := eq_true (by omega)
          have HNR0 : Hid (mm ++ [44] ++ member (key, form h0 kk) = m ++ 123 :: commas (((sortK (ks.zip (forms k))).map member).take (j + 1))) := Lib.hid (by rw [HM.out, HNX.out, if_neg h0q]; simp)
          clear h0q d3 d4
          go_upto_region 28 with (at_builtin; go_loud (refine wpList_byteK wr rfl _ _ rfl B _ mm (44 : UInt8) HO.out rfl rfl HBW.out rfl (by omega) ?_; rintro _ w3 m3 hm h1 ⟨A3', c3', rfl⟩ h2; have HO3 := Lib.hid h1; have HK3 := Lib.hid h2; have HM3 := Lib.hid hm; clear h1 h2 hm))
          have hm3 : m3.length ≤ 1099511627777 := by rw [HM3.out, List.length_append]; simp; omega
          have HNR : Hid (m3 ++ member (key, form h0 kk) = m ++ 123 :: commas (((sortK (ks.zip (forms k))).map member).take (j + 1))) := Lib.hid (by rw [HM3.out]; exact HNR0.out)
          clear HNR0
          refine wp_region_held_drew (S := (fun wy => wy.cell? ⟨w.heap.size, 4, none⟩ = some (.slice (some ad2) nk c2) ∧ wy.cell? ⟨w.heap.size, 3, none⟩ = some (.slice (some ad) ni c1) ∧ wy.cell? (ad7.add j) = some (.int .i64 (q : Nat)) ∧ wy.cell? (ad2.add q) = some (.string ⟨key.toArray⟩) ∧ wy.cell? (ad.add (q * 5)) = some (.int .i64 h0.kind) ∧ wy.cell? ⟨(ad.add (q * 5)).block, (ad.add (q * 5)).off + 1, none⟩ = some (.int .i64 h0.num) ∧ wy.cell? ⟨(ad.add (q * 5)).block, (ad.add (q * 5)).off + 2, none⟩ = some (.string ⟨h0.text.toArray⟩) ∧ wy.cell? ⟨(ad.add (q * 5)).block, (ad.add (q * 5)).off + 3, none⟩ = some (.slice A5 kk.len c5) ∧ wy.cell? ⟨(ad.add (q * 5)).block, (ad.add (q * 5)).off + 4, none⟩ = some (.slice A6 h0.keys.length c6))) (by kernel_rfl) (HSK.out _ ⟨HK3.out.1.drew, HK3.out.2⟩) (fun hHeld => ?_)
          refine wpAnyH_take (i := 0) (oi := { dst := some 80, op := Op.move (Operand.tmp 0), type := 74, pos := "ref.go:201", after := #[], guard := none }) (v := ?_) rfl (by kernel_rfl) (by kernel_rfl) (by kernel_rfl) (fun _ _ _ h => h) (Or.inl ⟨by rfl, ?_⟩) (by assumption) ?_
          rotate_left
          · (intro w hSw; (try dsimp only at hSw); go_simp; try with_reducible rfl)
          try simp only [Act.put, List.setIfInBounds_toArray, List.set_cons_zero, List.set_cons_succ]
          refine wpAnyH_take (i := 1) (oi := { dst := some 81, op := Op.fieldAddr 25 (Operand.tmp 3) 4, type := 0, pos := "ref.go:201", after := #[], guard := none }) (v := ?_) rfl (by kernel_rfl) (by kernel_rfl) (by kernel_rfl) (fun _ _ _ h => h) (Or.inl ⟨by rfl, ?_⟩) (by assumption) ?_
          rotate_left
          · (intro w hSw; (try dsimp only at hSw); go_simp; try with_reducible rfl)
          try simp only [Act.put, List.setIfInBounds_toArray, List.set_cons_zero, List.set_cons_succ]
          refine wpAnyH_take (i := 2) (oi := { dst := some 82, op := Op.load 23 (Operand.tmp 81), type := 23, pos := "ref.go:201", after := #[{ on := 1, ground := Ground.data }], guard := none }) (v := ?_) rfl (by kernel_rfl) (by kernel_rfl) (by kernel_rfl) (fun _ _ _ h => h) (Or.inl ⟨by rfl, ?_⟩) (by assumption) ?_
          rotate_left
          · (intro w hSw; (try dsimp only at hSw); go_simp; try with_reducible rfl)
          try simp only [Act.put, List.setIfInBounds_toArray, List.set_cons_zero, List.set_cons_succ]
          refine wpAnyH_take (i := 3) (oi := { dst := some 83, op := Op.move (Operand.tmp 6), type := 150, pos := "ref.go:201", after := #[], guard := none }) (v := ?_) rfl (by kernel_rfl) (by kernel_rfl) (by kernel_rfl) (fun _ _ _ h => h) (Or.inl ⟨by rfl, ?_⟩) (by assumption) ?_
          rotate_left
          · (intro w hSw; (try dsimp only at hSw); go_simp; try with_reducible rfl)
          try simp only [Act.put, List.setIfInBounds_toArray, List.set_cons_zero, List.set_cons_succ]
          refine wpAnyH_take (i := 4) (oi := { dst := some 84, op := Op.move (Operand.tmp 7), type := 3, pos := "ref.go:201", after := #[], guard := none }) (v := ?_) rfl (by kernel_rfl) (by kernel_rfl) (by kernel_rfl) (fun _ _ _ h => h) (Or.inl ⟨by rfl, ?_⟩) (by assumption) ?_
          rotate_left
          · (intro w hSw; (try dsimp only at hSw); go_simp; try with_reducible rfl)
          try simp only [Act.put, List.setIfInBounds_toArray, List.set_cons_zero, List.set_cons_succ]
          refine wpAnyH_take (i := 5) (oi := { dst := some 85, op := Op.indexAddr 150 (Operand.tmp 83) (Operand.tmp 84), type := 0, pos := "ref.go:201", after := #[{ on := 3, ground := Ground.data }, { on := 4, ground := Ground.data }], guard := none }) (v := ?_) rfl (by kernel_rfl) (by kernel_rfl) (by kernel_rfl) (fun _ _ _ h => h) (Or.inl ⟨by rfl, ?_⟩) (by assumption) ?_
          rotate_left
          · (intro w hSw; (try dsimp only at hSw); go_simp; try with_reducible rfl)
          try simp only [Act.put, List.setIfInBounds_toArray, List.set_cons_zero, List.set_cons_succ]
          refine wpAnyH_take (i := 6) (oi := { dst := some 86, op := Op.load 3 (Operand.tmp 85), type := 3, pos := "ref.go:201", after := #[{ on := 5, ground := Ground.data }], guard := none }) (v := ?_) rfl (by kernel_rfl) (by kernel_rfl) (by kernel_rfl) (fun _ _ _ h => h) (Or.inl ⟨by rfl, ?_⟩) (by assumption) ?_
          rotate_left
          · (intro w hSw; (try dsimp only at hSw); go_simp; try with_reducible rfl)
          try simp only [Act.put, List.setIfInBounds_toArray, List.set_cons_zero, List.set_cons_succ]
          refine wpAnyH_take (i := 7) (oi := { dst := some 87, op := Op.indexAddr 23 (Operand.tmp 82) (Operand.tmp 86), type := 0, pos := "ref.go:201", after := #[{ on := 2, ground := Ground.data }, { on := 6, ground := Ground.data }], guard := none }) (v := ?_) rfl (by kernel_rfl) (by kernel_rfl) (by kernel_rfl) (fun _ _ _ h => h) (Or.inl ⟨by rfl, ?_⟩) (by assumption) ?_
          rotate_left
          · (intro w hSw; (try dsimp only at hSw); go_simp; try with_reducible rfl)
          try simp only [Act.put, List.setIfInBounds_toArray, List.set_cons_zero, List.set_cons_succ]
          refine wpAnyH_take (i := 8) (oi := { dst := some 88, op := Op.load 9 (Operand.tmp 87), type := 9, pos := "ref.go:201", after := #[{ on := 7, ground := Ground.data }], guard := none }) (v := ?_) rfl (by kernel_rfl) (by kernel_rfl) (by kernel_rfl) (fun _ _ _ h => h) (Or.inl ⟨by rfl, ?_⟩) (by assumption) ?_
          rotate_left
          · (intro w hSw; (try dsimp only at hSw); go_simp; try with_reducible rfl)
          try simp only [Act.put, List.setIfInBounds_toArray, List.set_cons_zero, List.set_cons_succ]
          refine wpAnyH_ready (rs := [9]) (by kernel_rfl) (by simp) ?_
          refine AllReadyH.cons (o := { dst := some 89, op := Op.call { callee := Callee.value (Operand.func 86), args := #[Operand.tmp 88], argTypes := #[9] }, type := 9, pos := "ref.go:201", after := #[{ on := 8, ground := Ground.data }], guard := none }) rfl (fun K hK => ?_) AllReadyH.nil
          rw [if_pos (by rfl)]
          go_simp
          refine (HQT.out _).mono ?_
          rintro x wn ⟨rfl, hbn⟩
          have hbn := ((Below.refl (w3).heap.size w3).drew).trans hbn
          have HBw : Hid (B ≤ (w3).heap.size) := Lib.hid (Nat.le_trans HBW.out (ky_size HK3.out))
          have HOn := Lib.hid (ownY_below HO3.out hbn)
          have HKn : Hid (Ky B wr wn) := Lib.hid (ky_trans HK3.out (ky_of hbn HBw.out))
          have HBn : Hid (B ≤ wn.heap.size) := Lib.hid (Nat.le_trans HBw.out hbn.size)
          refine hK.out _ _ (HSK.out _ HKn.out) (fun _ => ?_)
          clear hK hbn
          try simp only [Act.put, List.setIfInBounds_toArray, List.set_cons_zero, List.set_cons_succ]
          refine wpAnyH_ready (rs := [10]) (by kernel_rfl) (by simp) ?_
          refine AllReadyH.cons (o := { dst := some 90, op := Op.call { callee := Callee.builtin Builtin.append, args := #[Operand.tmp 80, Operand.tmp 89], argTypes := #[74, 9] }, type := 74, pos := "ref.go:201", after := #[{ on := 0, ground := Ground.data }, { on := 9, ground := Ground.data }, { on := 9, ground := Ground.chain }], guard := none }) rfl (fun K hK => ?_) AllReadyH.nil
          rw [if_pos (by rfl)]
          refine wp_strK wn _ _ rfl B _ m3 (quoted key) HOn.out rfl rfl HBn.out (by omega) ?_
          rintro _ w5 m5 hm h1 ⟨A9, c9, rfl⟩ h3
          have HO5 := Lib.hid h1
          have HK5 : Hid (Ky B wr w5) := Lib.hid (ky_trans HKn.out h3)
          have HM5 := Lib.hid hm
          have hm5 : m5.length ≤ 70368744177664 := by rw [hm, List.length_append]; omega
          have HB5 : Hid (B ≤ w5.heap.size) := Lib.hid (Nat.le_trans HBW.out (ky_size HK5.out))
          refine hK.out _ _ (HSK.out _ HK5.out) (fun _ => ?_)
          clear hK hm h1 h3
          try simp only [Act.put, List.setIfInBounds_toArray, List.set_cons_zero, List.set_cons_succ]
          refine wpAnyH_take (i := 11) (oi := { dst := some 0, op := Op.assign (Operand.tmp 90), type := 74, pos := "ref.go:201", after := #[{ on := 10, ground := Ground.data }, { on := 10, ground := Ground.chain }, { on := 0, ground := Ground.phase }, { on := 1, ground := Ground.phase }, { on := 2, ground := Ground.phase }, { on := 3, ground := Ground.phase }, { on := 4, ground := Ground.phase }, { on := 5, ground := Ground.phase }, { on := 6, ground := Ground.phase }, { on := 7, ground := Ground.phase }, { on := 8, ground := Ground.phase }, { on := 9, ground := Ground.phase }, { on := 10, ground := Ground.phase }], guard := none }) (v := ?_) rfl (by kernel_rfl) (by kernel_rfl) (by kernel_rfl) (fun _ _ _ h => h) (Or.inl ⟨by rfl, ?_⟩) (by assumption) ?_
          rotate_left
          · (intro w hSw; (try dsimp only at hSw); go_simp; try with_reducible rfl)
          try simp only [Act.put, List.setIfInBounds_toArray, List.set_cons_zero]
          refine wpAnyH_done (by kernel_rfl) ?_ _
          go_upto_region 30 with (at_builtin; go_loud (refine wpList_byteK w5 rfl _ _ rfl B _ m5 (58 : UInt8) HO5.out rfl rfl HB5.out rfl (by omega) ?_; rintro _ w6 m6 hm h1 ⟨A6', c6', rfl⟩ h2; have HO6 := Lib.hid h1; have HK6 := Lib.hid (ky_trans HK5.out h2); have HM6 := Lib.hid hm; clear h1 h2 hm))
          have HNR6 : Hid (m6 ++ form h0 kk = m ++ 123 :: commas (((sortK (ks.zip (forms k))).map member).take (j + 1))) := Lib.hid (by rw [HM6.out, HM5.out, ← HNR.out]; simp [member])
          have HCF : Hid (∀ wx, Ky B wr wx → OwnY wx B (.slice A6' m6.length c6') m6 → _) := Lib.hid (fun wx hk ho => HCALL.out wx _ m6 _ hk ho rfl (by rw [HNR6.out]; exact HCL.out _))
          generalize form h0 kk = u at HNR6 HCF
          refine wp_region_held_drew (S := (fun wy => wy.cell? ⟨w.heap.size, 4, none⟩ = some (.slice (some ad2) nk c2) ∧ wy.cell? ⟨w.heap.size, 3, none⟩ = some (.slice (some ad) ni c1) ∧ wy.cell? (ad7.add j) = some (.int .i64 (q : Nat)) ∧ wy.cell? (ad2.add q) = some (.string ⟨key.toArray⟩) ∧ wy.cell? (ad.add (q * 5)) = some (.int .i64 h0.kind) ∧ wy.cell? ⟨(ad.add (q * 5)).block, (ad.add (q * 5)).off + 1, none⟩ = some (.int .i64 h0.num) ∧ wy.cell? ⟨(ad.add (q * 5)).block, (ad.add (q * 5)).off + 2, none⟩ = some (.string ⟨h0.text.toArray⟩) ∧ wy.cell? ⟨(ad.add (q * 5)).block, (ad.add (q * 5)).off + 3, none⟩ = some (.slice A5 kk.len c5) ∧ wy.cell? ⟨(ad.add (q * 5)).block, (ad.add (q * 5)).off + 4, none⟩ = some (.slice A6 h0.keys.length c6))) (by kernel_rfl) (HSK.out _ ⟨HK6.out.1.drew, HK6.out.2⟩) (fun hHeld => ?_)
          refine wpAnyH_take (i := 0) (oi := { dst := some 94, op := Op.move (Operand.tmp 0), type := 74, pos := "ref.go:203", after := #[], guard := none }) (v := ?_) rfl (by kernel_rfl) (by kernel_rfl) (by kernel_rfl) (fun _ _ _ h => h) (Or.inl ⟨by rfl, ?_⟩) (by assumption) ?_
          rotate_left
          · (intro w hSw; (try dsimp only at hSw); go_simp; try with_reducible rfl)
          try simp only [Act.put, List.setIfInBounds_toArray, List.set_cons_zero, List.set_cons_succ]
          refine wpAnyH_take (i := 1) (oi := { dst := some 95, op := Op.fieldAddr 25 (Operand.tmp 3) 3, type := 0, pos := "ref.go:203", after := #[], guard := none }) (v := ?_) rfl (by kernel_rfl) (by kernel_rfl) (by kernel_rfl) (fun _ _ _ h => h) (Or.inl ⟨by rfl, ?_⟩) (by assumption) ?_
          rotate_left
          · (intro w hSw; (try dsimp only at hSw); go_simp; try with_reducible rfl)
          try simp only [Act.put, List.setIfInBounds_toArray, List.set_cons_zero, List.set_cons_succ]
          refine wpAnyH_take (i := 2) (oi := { dst := some 96, op := Op.load 22 (Operand.tmp 95), type := 22, pos := "ref.go:203", after := #[{ on := 1, ground := Ground.data }], guard := none }) (v := ?_) rfl (by kernel_rfl) (by kernel_rfl) (by kernel_rfl) (fun _ _ _ h => h) (Or.inl ⟨by rfl, ?_⟩) (by assumption) ?_
          rotate_left
          · (intro w hSw; (try dsimp only at hSw); go_simp; try with_reducible rfl)
          try simp only [Act.put, List.setIfInBounds_toArray, List.set_cons_zero, List.set_cons_succ]
          refine wpAnyH_take (i := 3) (oi := { dst := some 97, op := Op.move (Operand.tmp 6), type := 150, pos := "ref.go:203", after := #[], guard := none }) (v := ?_) rfl (by kernel_rfl) (by kernel_rfl) (by kernel_rfl) (fun _ _ _ h => h) (Or.inl ⟨by rfl, ?_⟩) (by assumption) ?_
          rotate_left
          · (intro w hSw; (try dsimp only at hSw); go_simp; try with_reducible rfl)
          try simp only [Act.put, List.setIfInBounds_toArray, List.set_cons_zero, List.set_cons_succ]
          refine wpAnyH_take (i := 4) (oi := { dst := some 98, op := Op.move (Operand.tmp 7), type := 3, pos := "ref.go:203", after := #[], guard := none }) (v := ?_) rfl (by kernel_rfl) (by kernel_rfl) (by kernel_rfl) (fun _ _ _ h => h) (Or.inl ⟨by rfl, ?_⟩) (by assumption) ?_
          rotate_left
          · (intro w hSw; (try dsimp only at hSw); go_simp; try with_reducible rfl)
          try simp only [Act.put, List.setIfInBounds_toArray, List.set_cons_zero, List.set_cons_succ]
          refine wpAnyH_take (i := 5) (oi := { dst := some 99, op := Op.indexAddr 150 (Operand.tmp 97) (Operand.tmp 98), type := 0, pos := "ref.go:203", after := #[{ on := 3, ground := Ground.data }, { on := 4, ground := Ground.data }], guard := none }) (v := ?_) rfl (by kernel_rfl) (by kernel_rfl) (by kernel_rfl) (fun _ _ _ h => h) (Or.inl ⟨by rfl, ?_⟩) (by assumption) ?_
          rotate_left
          · (intro w hSw; (try dsimp only at hSw); go_simp; try with_reducible rfl)
          try simp only [Act.put, List.setIfInBounds_toArray, List.set_cons_zero, List.set_cons_succ]
          refine wpAnyH_take (i := 6) (oi := { dst := some 100, op := Op.load 3 (Operand.tmp 99), type := 3, pos := "ref.go:203", after := #[{ on := 5, ground := Ground.data }], guard := none }) (v := ?_) rfl (by kernel_rfl) (by kernel_rfl) (by kernel_rfl) (fun _ _ _ h => h) (Or.inl ⟨by rfl, ?_⟩) (by assumption) ?_
          rotate_left
          · (intro w hSw; (try dsimp only at hSw); go_simp; try with_reducible rfl)
          try simp only [Act.put, List.setIfInBounds_toArray, List.set_cons_zero, List.set_cons_succ]
          refine wpAnyH_take (i := 7) (oi := { dst := some 101, op := Op.indexAddr 22 (Operand.tmp 96) (Operand.tmp 100), type := 0, pos := "ref.go:203", after := #[{ on := 2, ground := Ground.data }, { on := 6, ground := Ground.data }], guard := none }) (v := ?_) rfl (by kernel_rfl) (by kernel_rfl) (by kernel_rfl) (fun _ _ _ h => h) (Or.inl ⟨by rfl, ?_⟩) (by assumption) ?_
          rotate_left
          · (intro w hSw; (try dsimp only at hSw); go_simp; try with_reducible rfl)
          try simp only [Act.put, List.setIfInBounds_toArray, List.set_cons_zero, List.set_cons_succ]
          refine wpAnyH_take (i := 8) (oi := { dst := some 102, op := Op.load 25 (Operand.tmp 101), type := 25, pos := "ref.go:203", after := #[{ on := 7, ground := Ground.data }], guard := none }) (v := ?_) rfl (by kernel_rfl) (by kernel_rfl) (by kernel_rfl) (fun _ _ _ h => h) (Or.inl ⟨by rfl, ?_⟩) (by assumption) ?_
          rotate_left
          · (intro w hSw; (try dsimp only at hSw); go_simp; try with_reducible rfl)
          try simp only [Act.put, List.setIfInBounds_toArray, List.set_cons_zero, List.set_cons_succ]
          refine wpAnyH_ready (rs := [9]) (by kernel_rfl) (by simp) ?_
          refine AllReadyH.cons (o := { dst := some 103, op := Op.call { callee := Callee.value (Operand.func 33), args := #[Operand.tmp 94, Operand.tmp 102], argTypes := #[74, 25] }, type := 74, pos := "ref.go:203", after := #[{ on := 0, ground := Ground.data }, { on := 8, ground := Ground.data }], guard := none }) rfl (fun K hK => ?_) AllReadyH.nil
          rw [if_pos (by rfl)]
          go_simp
          refine (HCF.out _ ⟨HK6.out.1.drew, HK6.out.2⟩ HO6.out).mono ?_
          rintro x w7 ⟨v7, rfl, hO7, hK7⟩
          have HO7 := Lib.hid hO7
          have HK7 : Hid (Ky B wr w7) := Lib.hid (ky_trans ⟨HK6.out.1.drew, HK6.out.2⟩ hK7)
          refine hK.out _ _ (HSK.out _ HK7.out) (fun _ => ?_)
          clear hK hO7 hK7
          try simp only [Act.put, List.setIfInBounds_toArray, List.set_cons_zero, List.set_cons_succ]
          refine wpAnyH_take (i := 10) (oi := { dst := some 0, op := Op.assign (Operand.tmp 103), type := 74, pos := "ref.go:203", after := #[{ on := 9, ground := Ground.data }, { on := 9, ground := Ground.chain }, { on := 0, ground := Ground.phase }, { on := 1, ground := Ground.phase }, { on := 2, ground := Ground.phase }, { on := 3, ground := Ground.phase }, { on := 4, ground := Ground.phase }, { on := 5, ground := Ground.phase }, { on := 6, ground := Ground.phase }, { on := 7, ground := Ground.phase }, { on := 8, ground := Ground.phase }, { on := 9, ground := Ground.phase }], guard := none }) (v := ?_) rfl (by kernel_rfl) (by kernel_rfl) (by kernel_rfl) (fun _ _ _ h => h) (Or.inl ⟨by rfl, ?_⟩) (by assumption) ?_
          rotate_left
          · (intro w hSw; (try dsimp only at hSw); go_simp; try with_reducible rfl)
          try simp only [Act.put, List.setIfInBounds_toArray, List.set_cons_zero]
          refine wpAnyH_done (by kernel_rfl) ?_ _
          have HKE : Hid (Ky B w1 w7) := Lib.hid (ky_trans HB.out HK7.out)
          go_wp2_with fail
          go_roundw
          case rel => exact ⟨j + 1, _, by omega, by go_num, HNR6, HO7, HKE⟩
          case measure => simp [intOf]; omega
      · have HQN : Hid (r = mm ++ [125]) := Lib.hid (by
          rw [HF.out, HM.out, show j = ((sortK (ks.zip (forms k))).map member).length by
            rw [List.length_map, (sortK_perm _).length_eq, List.length_zip, forms_len, ← HNI.out, ← HNK.out, ← HKL.out]; omega, List.take_length]; simp)
        go_wp2_with (at_builtin; go_loud (refine wpList_byteK wr rfl _ _ rfl B _ mm (125 : UInt8) HO.out rfl rfl HBW.out rfl (by omega) ?_; rintro _ w3 m3 hm h1 ⟨A3', c3', rfl⟩ h2; have HO3 := Lib.hid h1; have HK3 := Lib.hid h2; have HM3 := Lib.hid hm; clear h1 h2 hm))
        go_ret
        exact ⟨_, rfl, by rw [HQN.out, ← HM3.out]; exact HO3.out, ky_trans HBE.out HK3.out⟩
theorem frm_any (n : Nat) : FrmC n := by
  induction n using Nat.strongRecOn with
  | ind n ih => exact frm_step n ih
end Js
end Go.Proofs.YtlfeddgpfaigkaaGreatDoor
namespace Go.Proofs.YtlfeddgpfaigkaaGreatDoor
open Go.RowKit
namespace Js
set_option maxHeartbeats 3200000 in
set_option maxRecDepth 100000 in
theorem printR_any (h : Hd) (k : F) (iv kv : Value) (S : Nat → Prop) (w : World) (hf : Fit h) (hn : NumOk h) (hkf : k.All Fit) (hkn : k.All NumOk) (hl : (form h k).length ≤ 1099511627776) (htv : TV encJ w S h k (jcells h iv kv)) (hS : ∀ b, S b → b < w.heap.size) :
    Calls Tryz.prog 10 #[.agg #[.int .i64 h.kind, .int .i64 h.num, .string ⟨h.text.toArray⟩, iv, kv]] w fun x w' => x = .returned (.tuple #[.string ⟨(printed h k).1.toArray⟩, .int .i64 ((printed h k).2 : Nat)]) ∧ Below w.heap.size w w' := by
  obtain ⟨wz, hwz⟩ : ∃ wz, wz = w.alloc (.cells #[.int .i64 h.kind, .int .i64 h.num, .string ⟨h.text.toArray⟩, iv, kv] 25) := ⟨_, rfl⟩
  have HBA : Hid (Blk wz w.heap.size 25 #[.int .i64 h.kind, .int .i64 h.num, .string ⟨h.text.toArray⟩, iv, kv]) := Lib.hid (by rw [hwz]; exact Blk.new _ _ _)
  have HZ : Hid (Below w.heap.size w wz) := Lib.hid (by rw [hwz]; exact (Below.refl _ _).alloc (Nat.le_refl _) _)
  have HTV := Lib.hid htv
  have HS := Lib.hid hS
  have HF := Lib.hid (And.intro hf (And.intro hn (And.intro hkf hkn)))
  have HL := Lib.hid hl
  have HW := Lib.hid (wrgs_any _ 1 h k iv kv S wz (Nat.le_refl _) (by decide) hf hkf (htv.kept fun p hp => HZ.out.cell (hS _ hp)) (fun b hb => by have := hS b hb; have := HZ.out.size; omega))
  clear htv hS hf hn hkf hkn hl
  have d0 := HBA.out.cell 0
  have d1 := HBA.out.cell 1
  have d2 := HBA.out.cell 2
  have d3 := HBA.out.cell 3
  have d4 := HBA.out.cell 4
  go_enter Tryz.func10, Tryz.ntmps10
  go_wp2_with fail
  rw [← hwz]
  clear hwz
  refine HW.out.mono ?_
  rintro x w1 ⟨rfl, hb⟩
  have HB1 := Lib.hid (HBA.out.below hb HBA.out.lt)
  have HK1 : Hid (Below w.heap.size w w1) := Lib.hid (HZ.out.trans (hb.mono HZ.out.size))
  clear hb HW d0 d1 d2 d3 d4
  by_cases h0 : wrongs 1 h k = 0
  · have HP : Hid (printed h k = if 4194304 < (form h k).length then ([], 5) else (form h k, 0)) := Lib.hid (by unfold printed; rw [if_neg (by rw [h0]; simp)])
    have HFR := Lib.hid (frm_any _ 1 h k iv kv S w.heap.size (.slice none 0 0) [] (form h k) w1 (Nat.le_refl _) h0 HF.out.1 HF.out.2.1 HF.out.2.2.1 HF.out.2.2.2 rfl HL.out (HTV.out.kept fun p hp => HK1.out.cell (HS.out _ hp)) HS.out HK1.out.size (ownY_nil _ _))
    rw [h0]
    clear h0
    have d0 := HB1.out.cell 0
    have d1 := HB1.out.cell 1
    have d2 := HB1.out.cell 2
    have d3 := HB1.out.cell 3
    have d4 := HB1.out.cell 4
    generalize form h k = u at HP HFR
    go_wp2_with fail
    refine HFR.out.mono ?_
    rintro x w2 ⟨v2, rfl, ho, hk⟩
    obtain ⟨A5, c5, hv5, hr5⟩ := ownY_reads ho
    subst hv5
    have HK2 : Hid (Below w.heap.size w w2) := Lib.hid (HK1.out.trans hk.1)
    have hcv := run_convert_reads (P := Tryz.prog) Tryz.underlying74 Tryz.underlying5 Tryz.underlying9 c5 hr5
    clear ho hk hr5 HFR d0 d1 d2 d3 d4
    by_cases hlt : 4194304 < u.length
    · have l1 : ((4194304 : Int) < (u.length : Int)) = True := eq_true (by omega)
      have HP2 : Hid (printed h k = ([], 5)) := Lib.hid (by rw [HP.out, if_pos hlt])
      clear hlt hcv
      go_wp2
      go_ret2
      exact ⟨by rw [HP2.out]; rfl, HK2.out⟩
    · have l1 : ((4194304 : Int) < (u.length : Int)) = False := eq_false (by omega)
      have HP2 : Hid (printed h k = (u, 0)) := Lib.hid (by rw [HP.out, if_neg hlt])
      clear hlt
      go_wp2
      go_ret2
      exact ⟨by rw [HP2.out]; rfl, HK2.out⟩
  · have HP : Hid (printed h k = ([], wrongs 1 h k)) := Lib.hid (by unfold printed; rw [if_pos h0])
    have HZ0 := Lib.hid h0
    clear h0
    generalize wrongs 1 h k = z at HP HZ0 ⊢
    have q1 : ((z : Int) != 0) = true := by rw [bne_iff_ne]; have := HZ0.out; omega
    go_wp2
    go_ret2
    exact ⟨by rw [HP.out]; rfl, HK1.out⟩
end Js
end Go.Proofs.YtlfeddgpfaigkaaGreatDoor
