/-
  Parts of the proof: CfGi, CfS.
-/
import Derived.Test.YtjohdaobhonioaaGreatDoorPkFo27
import Derived.Test.YtjohdaobhonioaaGreatDoorPkFo31
import Derived.Test.YtjohdaobhonioaaGreatDoorPkFo19
namespace Go.Proofs.YtjohdaobhonioaaGreatDoor
open Go.RowKit
namespace Js.Cf
theorem at_wt (v : V) (key : B) : hm (atJ v key).1 + F.wt (atJ v key).2 ≤ hm v.1 + F.wt v.2 := by
 have hz : hm tZ.1 + F.wt tZ.2 ≤ hm v.1 + F.wt v.2 := by simp [tZ, hm, F.wt, plainH]
 unfold atJ getP
 split
 . cases hp : placeL v.1.keys key with
   | none => exact hz
   | some j =>
    simp only [Option.bind_some]
    cases hj : (toL v.2)[j]? with
    | none => exact hz
    | some x => exact Nat.le_trans (wt_at hj) (Nat.le_add_left _ _)
 . exact hz
theorem size_kids : ∀ (f : F), sizeT ((toL f).map fun p => p.1.text) ≤ F.wt f
 | .nil => by simp [toL, sizeT, F.wt]
 | .cons h k r => by
  have := size_kids r
  simp only [toL, List.map_cons, sizeT_cons, F.wt, hm]; omega
theorem size_textsJ (v : V) : sizeT (textsJ v) ≤ F.wt v.2 := size_kids v.2
theorem size_cut : ∀ (l : List B), sizeT (flatP (l.map cutE)) ≤ sizeT l
 | [] => by simp [flatP, sizeT]
 | s :: r => by
  have h1 := size_cut r
  have h2 : ((s.takeWhile (· != 61)) ++ (s.dropWhile (· != 61))).length = s.length := by rw [List.takeWhile_append_dropWhile]
  rw [List.length_append] at h2
  simp only [flatP, List.map_cons, List.flatMap_cons, cutE] at h1 ⊢
  simp only [List.cons_append, List.nil_append, sizeT_cons, List.length_drop]
  omega
theorem size_zip : ∀ (l m : List B), sizeT (flatP (l.zip m)) ≤ sizeT l + sizeT m
 | [], m => by simp [flatP, sizeT]
 | _ :: _, [] => by simp [flatP, sizeT]
 | a :: l, b :: m => by
  have h1 := size_zip l m
  simp only [flatP, List.zip_cons_cons, List.flatMap_cons, List.cons_append, List.nil_append, sizeT_cons] at h1 ⊢
  omega
theorem size_keys (h : Hd) : sizeT h.keys + h.keys.length + h.text.length ≤ hm h := by unfold hm sizeT; omega
theorem size_past : ∀ (f : F), sizeT (((toL f).map exPast).map Prod.fst) ≤ F.wt f
 | .nil => by simp [toL, sizeT, F.wt]
 | .cons h k r => by
  have h1 := size_past r
  have h2 := at_wt (h, k) kBy
  have h3 := size_keys (atJ (h, k) kBy).1
  simp only [toL, List.map_cons, sizeT_cons, F.wt, exPast] at h1 h2 ⊢
  omega
def readI (v : V) (ds : List B) : Img := ⟨exCfg (atJ v kCfg), (toL (atJ v kHist).2).map exPast, ds⟩
def diffsJ (v : V) : List B := textsJ (atJ (atJ v kRoot) kDiffs)
theorem digs_length : ∀ {l ds : List B}, digs l = some ds -> ds.length = l.length
 | [], ds, h => by injection h with h; subst h; rfl
 | t :: r, ds, h => by
  rw [digs] at h
  split at h
  . cases h
  . split at h
    . cases h
    . rename_i l hl
      injection h with h
      subst h
      rw [List.length_cons, List.length_cons, digs_length hl]
theorem few_readI {v : V} {ds : List B} (hg : Gd v) (hd : digs (diffsJ v) = some ds) : Few (readI v ds) := by
 have hc := hg.at kCfg
 have hlen : ∀ u : V, Gd u -> (textsJ u).length ≤ 4194304 := fun u hu => by unfold textsJ; rw [List.length_map, toL_len]; exact hu.len
 have hk : ∀ u : V, Gd u -> u.1.keys.length ≤ 4194304 /\ sizeT u.1.keys ≤ 4194304 /\ u.1.text.length ≤ 4194304 := fun u hu => by
   have h1 := size_keys u.1
   have h2 := hu.wt
   exact ⟨by omega, by omega, by omega⟩
 have hs : ∀ u : V, Gd u -> sizeT (textsJ u) ≤ 4194304 := fun u hu => by
   have h1 := size_textsJ u
   have h2 := hu.wt
   omega
 refine ⟨?_, ?_, ?_, ?_, ?_, ?_, ?_, ?_⟩
 . have := hlen _ (hc.at kEnv)
   show ((textsJ (atJ (atJ v kCfg) kEnv)).map cutE).length ≤ _
   rw [List.length_map]; omega
 . have := (hk _ (hc.at kPorts)).1
   show (atJ (atJ v kCfg) kPorts).1.keys.length ≤ _
   omega
 . have := (hk _ (hc.at kLabels)).1
   show ((atJ (atJ v kCfg) kLabels).1.keys.zip (textsJ (atJ (atJ v kCfg) kLabels))).length ≤ _
   rw [List.length_zip]; omega
 . have := hlen _ (hc.at kCmd)
   show (textsJ (atJ (atJ v kCfg) kCmd)).length ≤ _
   omega
 . have := hlen _ (hc.at kEntry)
   show (textsJ (atJ (atJ v kCfg) kEntry)).length ≤ _
   omega
 . have := (hg.at kHist).len
   show ((toL (atJ v kHist).2).map exPast).length ≤ _
   rw [List.length_map, toL_len]; omega
 . have h1 := digs_length hd
   have := hlen _ ((hg.at kRoot).at kDiffs)
   show ds.length ≤ _
   rw [h1]
   unfold diffsJ
   omega
 . have e1 := (hk _ (hc.at kDir)).2.2
   have e2 := (hk _ (hc.at kUser)).2.2
   have e3 := (hk _ (hc.at kPorts)).2.1
   have e4 := hs _ (hc.at kCmd)
   have e5 := hs _ (hc.at kEntry)
   have e6 := Nat.le_trans (size_cut (textsJ (atJ (atJ v kCfg) kEnv))) (hs _ (hc.at kEnv))
   have e7 := size_zip (atJ (atJ v kCfg) kLabels).1.keys (textsJ (atJ (atJ v kCfg) kLabels))
   have e8 := (hk _ (hc.at kLabels)).2.1
   have e9 := hs _ (hc.at kLabels)
   have e10 := size_past (atJ v kHist).2
   have e11 := (hg.at kHist).wt
   show sizeT ([(atJ (atJ v kCfg) kDir).1.text, (atJ (atJ v kCfg) kUser).1.text] ++ ((atJ (atJ v kCfg) kPorts).1.keys ++ (textsJ (atJ (atJ v kCfg) kCmd) ++ (textsJ (atJ (atJ v kCfg) kEntry) ++ (flatP ((textsJ (atJ (atJ v kCfg) kEnv)).map cutE) ++ (flatP ((atJ (atJ v kCfg) kLabels).1.keys.zip (textsJ (atJ (atJ v kCfg) kLabels))) ++ ((toL (atJ v kHist).2).map exPast).map Prod.fst)))))) ≤ _
   simp only [sizeT_app, sizeT_cons]
   rw [show sizeT [] = 0 from rfl]
   omega
theorem exImg_is (v : V) : exImg v = match digs (diffsJ v) with
 | none => none
 | some ds => some (readI v ds) := rfl
theorem progI_err {s r : B} {no : Nat} (h : parse s = .err no r) : progI s = none := by unfold progI; rw [h]
theorem progI_none {s r : B} {h : Hd} {k : F} (hp : parse s = .ok h k r) (hd : digs (diffsJ (h, k)) = none) : progI s = none := by
 unfold progI
 rw [hp]
 simp only
 rw [exImg_is, hd]
theorem progI_bad {s r : B} {h : Hd} {k : F} {ds : List B} (hp : parse s = .ok h k r) (hd : digs (diffsJ (h, k)) = some ds) (hb : imgP (readI (h, k) ds) ≠ (s, 0)) : progI s = none := by
 rw [progI_ok hp (by rw [exImg_is, hd]), if_neg hb]
theorem progI_good {s r : B} {h : Hd} {k : F} {ds : List B} (hp : parse s = .ok h k r) (hd : digs (diffsJ (h, k)) = some ds) (hb : imgP (readI (h, k) ds) = (s, 0)) : progI s = some (readI (h, k) ds) := by
 rw [progI_ok hp (by rw [exImg_is, hd]), if_pos hb]
end Js.Cf
end Go.Proofs.YtjohdaobhonioaaGreatDoor
namespace Go.Proofs.YtjohdaobhonioaaGreatDoor
open Go.RowKit
namespace Js.Cf
set_option maxHeartbeats 8000000 in
set_option maxRecDepth 100000 in
theorem os_someK {wc wr : World} {ob Bn : Nat} {Q : Nat -> Prop} {l : List (B × V)} {iv kv : Value} (h : OS wc wr ob Bn Q l iv kv) (hl : l.length ≤ 1099511627776) (key : B) (v : V) (jv jk : Value) (S2 : Nat -> Prop) (htv : TV encJ wr S2 v.1 v.2 (jcells v.1 jv jk)) (hS2 : ∀ b, S2 b -> Q b /\ b < wr.heap.size /\ kv.ownBlock ≠ some b /\ iv.ownBlock ≠ some b) :
   Calls Tryz.prog 137 #[.pointer (some ⟨ob, 0, none⟩), .string ⟨key.toArray⟩, .agg #[.int .i64 v.1.kind, .int .i64 v.1.num, .string ⟨v.1.text.toArray⟩, jv, jk]] wr fun x w' => x = .returned (.tuple #[]) /\ wr.heap.size ≤ w'.heap.size /\ ∃ iv' kv', OS wc w' ob Bn Q (l ++ if 0 < v.2.len ∨ v.1.text ≠ [] then [(key, v)] else []) iv' kv' /\ Kp wr.heap.size (fun b => b = ob ∨ iv.ownBlock = some b ∨ kv.ownBlock = some b) wr w' := by
 have HTV0 := Lib.hid htv
 obtain ⟨A1, c1, A2, c2, us, ecs, _⟩ := htv
 have eiv : jv = .slice A1 v.2.len c1 /\ jk = .slice A2 v.1.keys.length c2 := by
   simp only [encJ, jcells, List.cons.injEq, and_true, true_and] at ecs
   exact ecs
 obtain ⟨rfl, rfl⟩ := eiv
 clear ecs
 obtain ⟨n, hn⟩ : ∃ n, n = v.2.len := ⟨_, rfl⟩
 have HN := Lib.hid hn
 rw [<- hn] at HTV0 ⊢
 obtain ⟨b0, hb0⟩ : ∃ b0, b0 = wr.heap.size := ⟨_, rfl⟩
 obtain ⟨wa, hwa⟩ : ∃ wa, wa = wr.alloc (.cells #[.int .i64 v.1.kind, .int .i64 v.1.num, .string ⟨v.1.text.toArray⟩, .slice A1 n c1, .slice A2 v.1.keys.length c2] 54) := ⟨_, rfl⟩
 have hb1 : Below wr.heap.size wr wa := by rw [hwa]; exact (Below.refl _ _).alloc (Nat.le_refl _) _
 have HB : Hid (Blk wa b0 54 #[.int .i64 v.1.kind, .int .i64 v.1.num, .string ⟨v.1.text.toArray⟩, .slice A1 n c1, .slice A2 v.1.keys.length c2]) := Lib.hid (by rw [hwa, hb0]; exact Blk.new _ _ _)
 have HO := Lib.hid (h.below hb1)
 have HTV : Hid (TV encJ wa S2 v.1 v.2 (jcells v.1 (.slice A1 n c1) (.slice A2 v.1.keys.length c2))) := Lib.hid (HTV0.out.kept fun p hp => hb1.cell (hS2 _ hp).2.1)
 have HS2 : Hid (∀ b, S2 b -> Q b /\ b < wa.heap.size /\ kv.ownBlock ≠ some b /\ iv.ownBlock ≠ some b) := Lib.hid fun b hb => ⟨(hS2 b hb).1, Nat.lt_of_lt_of_le (hS2 b hb).2.1 hb1.size, (hS2 b hb).2.2⟩
 have HSZ : Hid (wr.heap.size ≤ wa.heap.size) := Lib.hid hb1.size
 have HKA : Hid (Kp wr.heap.size (fun b => b = ob ∨ iv.ownBlock = some b ∨ kv.ownBlock = some b) wr wa) := Lib.hid (by rw [hwa]; exact (Kp.refl _ _ _).alloc (Nat.le_refl _) _)
 have HPUT := Lib.hid (os_putK HO.out hl key v _ _ S2 HTV.out HS2.out)
 clear h hS2 HTV0 hb1 hn
 obtain ⟨L, hL⟩ : ∃ L, L = l ++ if 0 < n ∨ v.1.text ≠ [] then [(key, v)] else [] := ⟨_, rfl⟩
 rw [<- hL]
 have HL := Lib.hid hL
 clear hL
 go_enter Tryz.func137, Tryz.ntmps137
 go_upto_region 1 with fail
 rw [<- hwa, <- hb0]
 clear hwa hb0
 have x0 := HB.out.cell 0
 have x1 := HB.out.cell 1
 have x2 := HB.out.cell 2
 have x3 := HB.out.cell 3
 have x4 := HB.out.cell 4
 by_cases h1 : 0 < n
 . have hq : (0 < (n : Int)) = True := eq_true (by omega)
   have HC : Hid (0 < n ∨ v.1.text ≠ []) := Lib.hid (.inl h1)
   go_wp2_with fail
   refine HPUT.out.mono ?_
   rintro x w1 ⟨rfl, hs, iv1, kv1, ho, hk⟩
   have HKW := Lib.hid (HKA.out.trans (hk.mono HSZ.out fun _ _ h => h))
   go_wp2_with fail
   go_end0
   have e := HL.out
   rw [if_pos HC.out] at e
   rw [e]
   exact ⟨rfl, Nat.le_trans HSZ.out hs, iv1, kv1, ho, HKW.out⟩
 . have hq : (0 < (n : Int)) = False := eq_false (by omega)
   by_cases h2 : v.1.text = []
   . have HC : Hid ((0 < n ∨ v.1.text ≠ []) = False) := Lib.hid (eq_false (by rintro (h | h); exact h1 h; exact h h2))
     have he : v.1.text.isEmpty = true := by rw [h2]; rfl
     have HFIN : Hid (∃ iv' kv', OS wc wa ob Bn Q (l ++ []) iv' kv' /\ Kp wr.heap.size (fun b => b = ob ∨ iv.ownBlock = some b ∨ kv.ownBlock = some b) wr wa) := Lib.hid ⟨iv, kv, by rw [List.append_nil]; exact HO.out, HKA.out⟩
     clear h2
     go_wp2_with fail
     go_end0
     have e := HL.out
     rw [if_neg (fun h => by rw [HC.out] at h; exact h)] at e
     rw [e]
     exact ⟨rfl, HSZ.out, HFIN.out⟩
   . have HC : Hid (0 < n ∨ v.1.text ≠ []) := Lib.hid (.inr h2)
     have he : v.1.text.isEmpty = false := by cases ht : v.1.text with
      | nil => exact absurd ht h2
      | cons _ _ => rfl
     clear h2
     go_wp2_with fail
     refine HPUT.out.mono ?_
     rintro x w1 ⟨rfl, hs, iv1, kv1, ho, hk⟩
     have HKW := Lib.hid (HKA.out.trans (hk.mono HSZ.out fun _ _ h => h))
     go_wp2_with fail
     go_end0
     have e := HL.out
     rw [if_pos HC.out] at e
     rw [e]
     exact ⟨rfl, Nat.le_trans HSZ.out hs, iv1, kv1, ho, HKW.out⟩
end Js.Cf
end Go.Proofs.YtjohdaobhonioaaGreatDoor
