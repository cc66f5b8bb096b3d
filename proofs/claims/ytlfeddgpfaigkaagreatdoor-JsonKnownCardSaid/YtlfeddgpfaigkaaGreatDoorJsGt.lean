/-
  The walk of package json's Get at this seat's translation: what an object has under a key.
-/
import Derived.Test.YtlfeddgpfaigkaaGreatDoorJsCl
import Derived.Test.YtlfeddgpfaigkaaGreatDoorJsPl
import Derived.Test.YtlfeddgpfaigkaaGreatDoorJsPa
namespace Go.Proofs.YtlfeddgpfaigkaaGreatDoor
open Go.RowKit
namespace Js
theorem place_some {l : List (List UInt8)} {s : List UInt8} {j : Nat} (h : l[j]? = some s) (hn : s ∉ l.take j) : placeL l s = some j := by
  have hm : s ∈ l := List.mem_of_getElem? h
  obtain ⟨i, hi, hx⟩ := idxOf_some hm
  unfold placeL
  rw [hi]
  have hlt : ∀ {q : Nat}, l[q]? = some s → q < l.length := fun {q} hq => by
    rcases Nat.lt_or_ge q l.length with h1 | h1
    · exact h1
    · rw [List.getElem?_eq_none h1] at hq; cases hq
  have hij : ¬ i < j := fun hlt' => hn (List.mem_of_getElem? (i := i) (by rw [List.getElem?_take_of_lt hlt']; exact hx))
  have hji : ¬ j < i := fun hlt' => by
    have h1 := List.idxOf?_eq_some_iff.1 hi
    obtain ⟨_, _, h3⟩ := h1
    have := h3 j hlt'
    rw [List.getElem?_eq_getElem (hlt h)] at h
    injection h with h
    exact this h
  congr 1
  omega
theorem place_none {l : List (List UInt8)} {s : List UInt8} (h : s ∉ l) : placeL l s = none := by
  unfold placeL
  rw [List.idxOf?_eq_none_iff]
  exact h
theorem place_spec {l : List (List UInt8)} {s : List UInt8} {j : Nat} (h : placeL l s = some j) : l[j]? = some s := by
  unfold placeL at h
  by_cases hm : s ∈ l
  · obtain ⟨i, hi, hx⟩ := idxOf_some hm
    rw [hi] at h
    injection h with h
    subst h
    exact hx
  · rw [List.idxOf?_eq_none_iff.2 hm] at h; cases h
/-- Where a text stands, as the program tells it. -/
def placeI (l : List (List UInt8)) (s : List UInt8) : Int := match placeL l s with
  | some j => (j : Int)
  | none => -1
/-- slices.Index. -/
theorem idx_any (A : Option Addr) (n c B : Nat) (l : List (List UInt8)) (s : List UInt8) (w : World) (hr : Reads w B 1 A n (tx l)) (hn : n ≤ 4398046511104) :
    Calls Tryz.prog 103 #[.slice A n c, .string ⟨s.toArray⟩] w fun x w' => x = .returned (.int .i64 (placeI l s)) ∧ w' = w := by
  have hll : l.length = n := by have := hr.1; rw [tx_length] at this; omega
  have HR := Lib.hid hr
  have HLL := Lib.hid hll
  clear hr hll
  go_enter Tryz.func103, Tryz.ntmps103
  go_wp2_with fail
  go_loopw [8] (fun i wr => ∃ j : Nat, j ≤ n ∧ i = .int .i64 j ∧ Hid (s ∉ l.take j) ∧ wr = w) (fun i _ => n - (intOf i).toNat)
  case atStart => exact ⟨0, by omega, rfl, Lib.hid (by simp), rfl⟩
  case round =>
    obtain ⟨j, hj, rfl, HN, rfl⟩ := hrel
    by_cases hlt : j < n
    · obtain ⟨ad, u, rfl, _, hu, hc⟩ := HR.out.at_ hlt
      have hlt2 : j < l.length := by have := HLL.out; omega
      have hxu := tx_get hu hlt2
      subst hxu
      have HX : Hid (l.take (j + 1) = l.take j ++ [l.getD j []] ∧ l[j]? = some (l.getD j [])) := Lib.hid (by
        rw [List.take_succ_eq_append_getElem hlt2]
        simp [List.getD, List.getElem?_eq_getElem hlt2])
      generalize l.getD j [] = x at hc hu HX
      clear hu
      by_cases hsx : s = x
      · subst hsx
        have HP : Hid (placeI l s = (j : Int)) := Lib.hid (by unfold placeI; rw [place_some HX.out.2 HN.out])
        go_wp2
        go_ret
        rw [HP.out]
        exact ⟨rfl, rfl⟩
      · have e1 : (s == x) = false := by simpa using hsx
        have HSX := Lib.hid hsx
        clear hsx
        go_wp2_with fail
        refine ⟨⟨j + 1, by omega, by push_cast; rfl, Lib.hid (by
          rw [HX.out.1]
          intro h
          rcases List.mem_append.1 h with h | h
          · exact HN.out h
          · simp at h; exact HSX.out h), trivial⟩, ?_⟩
        show n - ((j : Int) + 1).toNat < n - ((j : Int)).toNat
        omega
    · have hjn : j = n := by omega
      subst hjn
      have HP : Hid (placeI l s = -1) := Lib.hid (by
        have h1 := HN.out
        rw [← HLL.out, List.take_length] at h1
        unfold placeI
        rw [place_none h1])
      go_wp2
      go_ret
      rw [HP.out]
      exact ⟨rfl, rfl⟩
/-- What an object has under a key. -/
def getO (h : Hd) (k : F) (key : List UInt8) : Option (Hd × F) := if h.kind = 6 then (placeL h.keys key).bind fun j => (toL k)[j]? else none
/-- What Get answers. -/
def GPost (h : Hd) (k : F) (key : List UInt8) (w : World) (x : Ending) (w' : World) : Prop := match getO h k key with
  | some p => ∃ iv kv bs, x = .returned (.tuple #[.agg #[.int .i64 p.1.kind, .int .i64 p.1.num, .string ⟨p.1.text.toArray⟩, iv, kv], .bool true]) ∧ OT encJ w' w.heap.size 25 9 (.cons p.1 p.2 .nil) (jcells p.1 iv kv) bs ∧ bs.Nodup ∧ Below w.heap.size w w'
  | none => x = .returned (.tuple #[zeroJ, .bool false]) ∧ Below w.heap.size w w'
-- <
set_option maxHeartbeats 4000000 in
set_option maxRecDepth 100000 in
theorem get_any (h : Hd) (k : F) (iv kv : Value) (key : List UInt8) (S : Nat → Prop) (w : World) (htv : TV encJ w S h k (jcells h iv kv)) (hS : ∀ b, S b → b < w.heap.size) (hsz : k.sz ≤ 1099511627776) (hdp : k.deep ≤ 65536) :
    Calls Tryz.prog 44 #[.agg #[.int .i64 h.kind, .int .i64 h.num, .string ⟨h.text.toArray⟩, iv, kv], .string ⟨key.toArray⟩] w (GPost h k key w) := by
  obtain ⟨A1, c1, A2, c2, us, ecs, hlk, ⟨hlq, _⟩, hr1, htr, hr2⟩ := htv
  have eiv : iv = .slice A1 k.len c1 ∧ kv = .slice A2 h.keys.length c2 := by
    simp only [encJ, jcells, List.cons.injEq, and_true, true_and] at ecs
    exact ecs
  obtain ⟨rfl, rfl⟩ := eiv
  obtain ⟨b0, hb0⟩ : ∃ b0, b0 = w.heap.size := ⟨_, rfl⟩
  obtain ⟨wz, hwz⟩ : ∃ wz, wz = (w.alloc (.cells #[.int .i64 h.kind, .int .i64 h.num, .string ⟨h.text.toArray⟩, .slice A1 k.len c1, .slice A2 h.keys.length c2] 25)).alloc (.cells #[.int .i64 0, .int .i64 0, .string ⟨#[]⟩, .slice none 0 0, .slice none 0 0] 25) := ⟨_, rfl⟩
  have HB0 : Hid (Blk wz b0 25 #[.int .i64 h.kind, .int .i64 h.num, .string ⟨h.text.toArray⟩, .slice A1 k.len c1, .slice A2 h.keys.length c2]) := Lib.hid (by rw [hwz, hb0]; exact Blk.alloc (Blk.new _ _ _) _)
  have HR0 : Hid (Blk wz (b0 + 1) 25 #[.int .i64 0, .int .i64 0, .string ⟨#[]⟩, .slice none 0 0, .slice none 0 0]) := Lib.hid (by
    have := Blk.new (w.alloc (.cells #[.int .i64 h.kind, .int .i64 h.num, .string ⟨h.text.toArray⟩, .slice A1 k.len c1, .slice A2 h.keys.length c2] 25)) 25 #[.int .i64 0, .int .i64 0, .string ⟨#[]⟩, .slice none 0 0, .slice none 0 0]
    rw [hwz, hb0]; simpa using this)
  have HZ : Hid (Below w.heap.size w wz ∧ w.heap.size = b0) := Lib.hid (by rw [hwz, hb0]; exact ⟨((Below.refl _ _).alloc (Nat.le_refl _) _).alloc (by simp) _, rfl⟩)
  have HS := Lib.hid hS
  have HTR := Lib.hid htr
  have HR1 := Lib.hid (hr1.reads hS)
  have HR2 := Lib.hid ((hr2.reads hS).below HZ.out.1)
  have HKS := Lib.hid hsz
  have HKD := Lib.hid hdp
  obtain ⟨L, hL⟩ : ∃ L, L = k.len := ⟨_, rfl⟩
  obtain ⟨nk, hnk⟩ : ∃ nk, nk = h.keys.length := ⟨_, rfl⟩
  have HL := Lib.hid hL
  have HNK := Lib.hid hnk
  rw [← hL] at HR1 HB0 hwz hlk ⊢
  rw [← hnk] at HR2 HB0 hwz hlq ⊢
  clear hS htr hr1 hr2 ecs hL hnk hsz hdp
  have f0 := HR0.out.frozen 0
  have f1 := HR0.out.frozen 1
  have f2 := HR0.out.frozen 2
  have f3 := HR0.out.frozen 3
  have f4 := HR0.out.frozen 4
  have c0 := HR0.out.cell 0
  have c1' := HR0.out.cell 1
  have c2' := HR0.out.cell 2
  have c3 := HR0.out.cell 3
  have c4 := HR0.out.cell 4
  have d0 := HB0.out.cell 0
  have d3 := HB0.out.cell 3
  have d4 := HB0.out.cell 4
  have hbb : b0 ≤ b0 + 1 := by omega
  by_cases h6 : h.kind = 6
  · have q6 : (h.kind != 6) = false := by rw [h6]; rfl
    have HG : Hid (getO h k key = (placeL h.keys key).bind fun j => (toL k)[j]?) := Lib.hid (by unfold getO; rw [if_pos h6])
    have HIX := Lib.hid (idx_any A2 nk c2 w.heap.size h.keys key wz HR2.out hlq)
    clear h6
    go_enter Tryz.func44, Tryz.ntmps44
    go_wp2_with fail
    rw [← hwz]
    rw [← hb0]
    clear hwz hb0
    refine HIX.out.mono ?_
    rintro x w1 ⟨rfl, rfl⟩
    cases hp : placeL h.keys key with
    | none =>
      have HG1 : Hid (getO h k key = none) := Lib.hid (by rw [HG.out, hp]; rfl)
      have HI1 : placeI h.keys key = -1 := by unfold placeI; rw [hp]
      rw [HI1]
      clear hp HI1 HIX
      go_wp2
      exact bodyPost_ret (results_row_tmp (p := 4) (u := 5) rfl _ _ (b0 + 1) 25 _ (0, 0) _ rfl (blk_set5 HR0.out) Tryz.underlying25 rfl (by kernel_rfl)) rfl (by unfold GPost; rw [HG1.out]; exact ⟨rfl, below_set5 HZ.out.1 (by rw [HZ.out.2]; exact hbb)⟩)
    | some j =>
      have HI1 : placeI h.keys key = (j : Int) := by unfold placeI; rw [hp]
      rw [HI1]
      have HJ : Hid (j < nk) := Lib.hid (by
        have h1 := place_spec hp
        rw [HNK.out]
        rcases Nat.lt_or_ge j h.keys.length with h2 | h2
        · exact h2
        · rw [List.getElem?_eq_none h2] at h1; cases h1)
      by_cases hjl : j < L
      · obtain ⟨ad, rfl, hab, hcs⟩ := HR1.out.2 (by omega)
        obtain ⟨h0, kk, he, hsz, htv⟩ := HTR.out.at_ (i := j) (by have := HL.out; omega)
        obtain ⟨A4, c4'', A5, c5, us2, ecs, htv'⟩ := htv
        have hcs' := fun j u hu => (HZ.out.1.cell (show (ad.add j).block < w.heap.size by rw [block_of_add]; exact hab)).trans (hcs j u hu)
        obtain ⟨cc0, cc1, cc2, cc3, cc4⟩ := cells5 hcs' ecs
        have HTV : Hid (TV encJ w S h0 kk (jcells h0 (.slice A4 kk.len c4'') (.slice A5 h0.keys.length c5))) := Lib.hid ⟨A4, c4'', A5, c5, us2, rfl, htv'⟩
        have HG1 : Hid (getO h k key = some (h0, kk)) := Lib.hid (by rw [HG.out, hp]; exact he)
        have HCL := Lib.hid (clones_any kk.sz (by have := HKS.out; omega) h0 kk _ _ S 65535 w1 (Nat.le_refl _) (by have := deep_at he; have := HKD.out; omega) (by decide) (HTV.out.kept fun p hp => HZ.out.1.cell (HS.out _ hp)) (fun b h => by have := HS.out b h; have := HZ.out.1.size; omega))
        have HCL2 : Hid (Calls Tryz.prog 104 #[.agg #[.int .i64 h0.kind, .int .i64 h0.num, .string ⟨h0.text.toArray⟩, .slice A4 kk.len c4'', .slice A5 h0.keys.length c5], .int .i64 65535] w1 (VPost h0 kk w1)) := HCL
        have hjlt : ((j : Int) < (L : Int)) = True := eq_true (by omega)
        have hjb : j ≤ 4398046511104 := by omega
        clear htv' ecs hcs hcs' he hsz hab hp HI1 HCL HIX
        go_wp2_with fail
        refine HCL2.out.mono ?_
        rintro x w4 ⟨iv, kv, bs, rfl, hot, hnd, hb4⟩
        obtain ⟨⟨A6, c6, rfl⟩, A7, c7, rfl⟩ := ot_form hot
        have HR4 := Lib.hid (HR0.out.below hb4 HR0.out.lt)
        have HZ4 : Hid (Below w.heap.size w w4) := Lib.hid (HZ.out.1.trans (hb4.mono HZ.out.1.size))
        have HOT := Lib.hid hot
        have HLT : Hid (∀ b ∈ bs, b ≠ b0 + 1) := Lib.hid (fun b hb e => by have := (hot.lt b hb).1; have := HR0.out.lt; omega)
        have HLE : Hid (w.heap.size ≤ w1.heap.size) := Lib.hid HZ.out.1.size
        clear hot hb4 f0 f1 f2 f3 f4 c0 c1' c2' c3 c4 d0 d3 d4
        have f0 := HR4.out.frozen 0
        have f1 := HR4.out.frozen 1
        have f2 := HR4.out.frozen 2
        have f3 := HR4.out.frozen 3
        have f4 := HR4.out.frozen 4
        have c0 := HR4.out.cell 0
        have c1' := HR4.out.cell 1
        have c2' := HR4.out.cell 2
        have c3 := HR4.out.cell 3
        have c4 := HR4.out.cell 4
        go_wp2
        refine bodyPost_ret (results_row_tmp (p := 4) (u := 5) rfl _ _ (b0 + 1) 25 _ (0, 0) _ rfl (blk_set5 HR4.out) Tryz.underlying25 rfl (by kernel_rfl)) rfl ?_
        unfold GPost
        rw [HG1.out]
        exact ⟨_, _, bs, rfl, (HOT.out.less HLE.out).kept (fun b hb => heap_set5 b (HLT.out b hb)), hnd, below_set5 HZ4.out (by rw [HZ.out.2]; exact hbb)⟩
      · have HG1 : Hid (getO h k key = none) := Lib.hid (by
          rw [HG.out, hp]
          show (toL k)[j]? = none
          rw [List.getElem?_eq_none]
          rw [toL_len, ← HL.out]; omega)
        have hjlt : ((j : Int) < (L : Int)) = False := eq_false (by omega)
        clear hp HI1 HIX
        go_wp2
        exact bodyPost_ret (results_row_tmp (p := 4) (u := 5) rfl _ _ (b0 + 1) 25 _ (0, 0) _ rfl (blk_set5 HR0.out) Tryz.underlying25 rfl (by kernel_rfl)) rfl (by unfold GPost; rw [HG1.out]; exact ⟨rfl, below_set5 HZ.out.1 (by rw [HZ.out.2]; exact hbb)⟩)
  · have q6 : (h.kind != 6) = true := by simpa using h6
    have HG : Hid (getO h k key = none) := Lib.hid (by unfold getO; rw [if_neg h6])
    clear h6
    go_enter Tryz.func44, Tryz.ntmps44
    go_wp2_with fail
    rw [← hwz, ← hb0]
    exact bodyPost_ret (results_row_tmp (p := 4) (u := 5) rfl _ _ (b0 + 1) 25 _ (0, 0) _ rfl HR0.out Tryz.underlying25 rfl (by kernel_rfl)) rfl (by unfold GPost; rw [HG.out]; exact ⟨rfl, HZ.out.1⟩)
-- >
end Js
end Go.Proofs.YtlfeddgpfaigkaaGreatDoor
