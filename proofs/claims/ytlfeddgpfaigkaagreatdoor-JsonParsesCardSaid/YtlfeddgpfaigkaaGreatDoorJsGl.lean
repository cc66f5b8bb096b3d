/-
  The walk of package json's Get at this seat's translation: what an object has under a key.
  The walks of the law's place and like at this seat's translation: two values that are alike.
-/
import Derived.Test.YtlfeddgpfaigkaaGreatDoorJsCl
import Derived.Test.YtlfeddgpfaigkaaGreatDoorJsPl
import Derived.Test.YtlfeddgpfaigkaaGreatDoorJsPa
import Derived.Test.YtlfeddgpfaigkaaGreatDoorJsOa
namespace Go.Proofs.YtlfeddgpfaigkaaGreatDoor
open Go.RowKit
namespace Js
theorem place_some {l : List (List UInt8)} {s : List UInt8} {j : Nat} (h : l[j]? = some s) (hn : s ∉ l.take j) : placeL l s = some j := by
  have hm : s ∈ l := List.mem_of_getElem? h
  obtain ⟨i, hi, hx⟩ := idxOf_some hm
  unfold placeL
  rw [hi]
  have hlt : ∀ {q : Nat}, l[q]? = some s → q < l.length := fun {q} hq => by
    rcases Nat.lt_or_ge q l.length with h1 | h1
    · exact h1
    · rw [List.getElem?_eq_none h1] at hq; cases hq
  have hij : ¬ i < j := fun hlt' => hn (List.mem_of_getElem? (i := i) (by rw [List.getElem?_take_of_lt hlt']; exact hx))
  have hji : ¬ j < i := fun hlt' => by
    have h1 := List.idxOf?_eq_some_iff.1 hi
    obtain ⟨_, _, h3⟩ := h1
    have := h3 j hlt'
    rw [List.getElem?_eq_getElem (hlt h)] at h
    injection h with h
    exact this h
  congr 1
  omega
theorem place_none {l : List (List UInt8)} {s : List UInt8} (h : s ∉ l) : placeL l s = none := by
  unfold placeL
  rw [List.idxOf?_eq_none_iff]
  exact h
theorem place_spec {l : List (List UInt8)} {s : List UInt8} {j : Nat} (h : placeL l s = some j) : l[j]? = some s := by
  unfold placeL at h
  by_cases hm : s ∈ l
  · obtain ⟨i, hi, hx⟩ := idxOf_some hm
    rw [hi] at h
    injection h with h
    subst h
    exact hx
  · rw [List.idxOf?_eq_none_iff.2 hm] at h; cases h
/-- Where a text stands, as the program tells it. -/
def placeI (l : List (List UInt8)) (s : List UInt8) : Int := match placeL l s with
  | some j => (j : Int)
  | none => -1
/-- slices.Index. -/
theorem idx_any (A : Option Addr) (n c B : Nat) (l : List (List UInt8)) (s : List UInt8) (w : World) (hr : Reads w B 1 A n (tx l)) (hn : n ≤ 4398046511104) :
    Calls Tryz.prog 103 #[.slice A n c, .string ⟨s.toArray⟩] w fun x w' => x = .returned (.int .i64 (placeI l s)) ∧ w' = w := by
  have hll : l.length = n := by have := hr.1; rw [tx_length] at this; omega
  have HR := Lib.hid hr
  have HLL := Lib.hid hll
  clear hr hll
  go_enter Tryz.func103, Tryz.ntmps103
  go_wp2_with fail
  go_loopw [8] (fun i wr => ∃ j : Nat, j ≤ n ∧ i = .int .i64 j ∧ Hid (s ∉ l.take j) ∧ wr = w) (fun i _ => n - (intOf i).toNat)
  case atStart => exact ⟨0, by omega, rfl, Lib.hid (by simp), rfl⟩
  case round =>
    obtain ⟨j, hj, rfl, HN, rfl⟩ := hrel
    by_cases hlt : j < n
    · obtain ⟨ad, u, rfl, _, hu, hc⟩ := HR.out.at_ hlt
      have hlt2 : j < l.length := by have := HLL.out; omega
      have hxu := tx_get hu hlt2
      subst hxu
      have HX : Hid (l.take (j + 1) = l.take j ++ [l.getD j []] ∧ l[j]? = some (l.getD j [])) := Lib.hid (by
        rw [List.take_succ_eq_append_getElem hlt2]
        simp [List.getD, List.getElem?_eq_getElem hlt2])
      generalize l.getD j [] = x at hc hu HX
      clear hu
      by_cases hsx : s = x
      · subst hsx
        have HP : Hid (placeI l s = (j : Int)) := Lib.hid (by unfold placeI; rw [place_some HX.out.2 HN.out])
        go_wp2
        go_ret
        rw [HP.out]
        exact ⟨rfl, rfl⟩
      · have e1 : (s == x) = false := by simpa using hsx
        have HSX := Lib.hid hsx
        clear hsx
        go_wp2_with fail
        refine ⟨⟨j + 1, by omega, by push_cast; rfl, Lib.hid (by
          rw [HX.out.1]
          intro h
          rcases List.mem_append.1 h with h | h
          · exact HN.out h
          · simp at h; exact HSX.out h), trivial⟩, ?_⟩
        show n - ((j : Int) + 1).toNat < n - ((j : Int)).toNat
        omega
    · have hjn : j = n := by omega
      subst hjn
      have HP : Hid (placeI l s = -1) := Lib.hid (by
        have h1 := HN.out
        rw [← HLL.out, List.take_length] at h1
        unfold placeI
        rw [place_none h1])
      go_wp2
      go_ret
      rw [HP.out]
      exact ⟨rfl, rfl⟩
/-- What an object has under a key. -/
def getO (h : Hd) (k : F) (key : List UInt8) : Option (Hd × F) := if h.kind = 6 then (placeL h.keys key).bind fun j => (toL k)[j]? else none
/-- What Get answers. -/
def GPost (h : Hd) (k : F) (key : List UInt8) (w : World) (x : Ending) (w' : World) : Prop := match getO h k key with
  | some p => ∃ iv kv bs, x = .returned (.tuple #[.agg #[.int .i64 p.1.kind, .int .i64 p.1.num, .string ⟨p.1.text.toArray⟩, iv, kv], .bool true]) ∧ OT encJ w' w.heap.size 25 9 (.cons p.1 p.2 .nil) (jcells p.1 iv kv) bs ∧ bs.Nodup ∧ Below w.heap.size w w'
  | none => x = .returned (.tuple #[zeroJ, .bool false]) ∧ Below w.heap.size w w'
set_option maxHeartbeats 4000000 in
set_option maxRecDepth 100000 in
theorem get_any (h : Hd) (k : F) (iv kv : Value) (key : List UInt8) (S : Nat → Prop) (w : World) (htv : TV encJ w S h k (jcells h iv kv)) (hS : ∀ b, S b → b < w.heap.size) (hsz : k.sz ≤ 1099511627776) (hdp : k.deep ≤ 65536) :
    Calls Tryz.prog 44 #[.agg #[.int .i64 h.kind, .int .i64 h.num, .string ⟨h.text.toArray⟩, iv, kv], .string ⟨key.toArray⟩] w (GPost h k key w) := by
  obtain ⟨A1, c1, A2, c2, us, ecs, hlk, ⟨hlq, _⟩, hr1, htr, hr2⟩ := htv
  have eiv : iv = .slice A1 k.len c1 ∧ kv = .slice A2 h.keys.length c2 := by
    simp only [encJ, jcells, List.cons.injEq, and_true, true_and] at ecs
    exact ecs
  obtain ⟨rfl, rfl⟩ := eiv
  obtain ⟨b0, hb0⟩ : ∃ b0, b0 = w.heap.size := ⟨_, rfl⟩
  obtain ⟨wz, hwz⟩ : ∃ wz, wz = (w.alloc (.cells #[.int .i64 h.kind, .int .i64 h.num, .string ⟨h.text.toArray⟩, .slice A1 k.len c1, .slice A2 h.keys.length c2] 25)).alloc (.cells #[.int .i64 0, .int .i64 0, .string ⟨#[]⟩, .slice none 0 0, .slice none 0 0] 25) := ⟨_, rfl⟩
  have HB0 : Hid (Blk wz b0 25 #[.int .i64 h.kind, .int .i64 h.num, .string ⟨h.text.toArray⟩, .slice A1 k.len c1, .slice A2 h.keys.length c2]) := Lib.hid (by rw [hwz, hb0]; exact Blk.alloc (Blk.new _ _ _) _)
  have HR0 : Hid (Blk wz (b0 + 1) 25 #[.int .i64 0, .int .i64 0, .string ⟨#[]⟩, .slice none 0 0, .slice none 0 0]) := Lib.hid (by
    have := Blk.new (w.alloc (.cells #[.int .i64 h.kind, .int .i64 h.num, .string ⟨h.text.toArray⟩, .slice A1 k.len c1, .slice A2 h.keys.length c2] 25)) 25 #[.int .i64 0, .int .i64 0, .string ⟨#[]⟩, .slice none 0 0, .slice none 0 0]
    rw [hwz, hb0]; simpa using this)
  have HZ : Hid (Below w.heap.size w wz ∧ w.heap.size = b0) := Lib.hid (by rw [hwz, hb0]; exact ⟨((Below.refl _ _).alloc (Nat.le_refl _) _).alloc (by simp) _, rfl⟩)
  have HS := Lib.hid hS
  have HTR := Lib.hid htr
  have HR1 := Lib.hid (hr1.reads hS)
  have HR2 := Lib.hid ((hr2.reads hS).below HZ.out.1)
  have HKS := Lib.hid hsz
  have HKD := Lib.hid hdp
  obtain ⟨L, hL⟩ : ∃ L, L = k.len := ⟨_, rfl⟩
  obtain ⟨nk, hnk⟩ : ∃ nk, nk = h.keys.length := ⟨_, rfl⟩
  have HL := Lib.hid hL
  have HNK := Lib.hid hnk
  rw [← hL] at HR1 HB0 hwz hlk ⊢
  rw [← hnk] at HR2 HB0 hwz hlq ⊢
  clear hS htr hr1 hr2 ecs hL hnk hsz hdp
  have f0 := HR0.out.frozen 0
  have f1 := HR0.out.frozen 1
  have f2 := HR0.out.frozen 2
  have f3 := HR0.out.frozen 3
  have f4 := HR0.out.frozen 4
  have c0 := HR0.out.cell 0
  have c1' := HR0.out.cell 1
  have c2' := HR0.out.cell 2
  have c3 := HR0.out.cell 3
  have c4 := HR0.out.cell 4
  have d0 := HB0.out.cell 0
  have d3 := HB0.out.cell 3
  have d4 := HB0.out.cell 4
  have hbb : b0 ≤ b0 + 1 := by omega
  by_cases h6 : h.kind = 6
  · have q6 : (h.kind != 6) = false := by rw [h6]; rfl
    have HG : Hid (getO h k key = (placeL h.keys key).bind fun j => (toL k)[j]?) := Lib.hid (by unfold getO; rw [if_pos h6])
    have HIX := Lib.hid (idx_any A2 nk c2 w.heap.size h.keys key wz HR2.out hlq)
    clear h6
    go_enter Tryz.func44, Tryz.ntmps44
    go_wp2_with fail
    rw [← hwz]
    rw [← hb0]
    clear hwz hb0
    refine HIX.out.mono ?_
    rintro x w1 ⟨rfl, rfl⟩
    cases hp : placeL h.keys key with
    | none =>
      have HG1 : Hid (getO h k key = none) := Lib.hid (by rw [HG.out, hp]; rfl)
      have HI1 : placeI h.keys key = -1 := by unfold placeI; rw [hp]
      rw [HI1]
      clear hp HI1 HIX
      go_wp2
      exact bodyPost_ret (results_row_tmp (p := 4) (u := 5) rfl _ _ (b0 + 1) 25 _ (0, 0) _ rfl (blk_set5 HR0.out) Tryz.underlying25 rfl (by kernel_rfl)) rfl (by unfold GPost; rw [HG1.out]; exact ⟨rfl, below_set5 HZ.out.1 (by rw [HZ.out.2]; exact hbb)⟩)
    | some j =>
      have HI1 : placeI h.keys key = (j : Int) := by unfold placeI; rw [hp]
      rw [HI1]
      have HJ : Hid (j < nk) := Lib.hid (by
        have h1 := place_spec hp
        rw [HNK.out]
        rcases Nat.lt_or_ge j h.keys.length with h2 | h2
        · exact h2
        · rw [List.getElem?_eq_none h2] at h1; cases h1)
      by_cases hjl : j < L
      · obtain ⟨ad, rfl, hab, hcs⟩ := HR1.out.2 (by omega)
        obtain ⟨h0, kk, he, hsz, htv⟩ := HTR.out.at_ (i := j) (by have := HL.out; omega)
        obtain ⟨A4, c4'', A5, c5, us2, ecs, htv'⟩ := htv
        have hcs' := fun j u hu => (HZ.out.1.cell (show (ad.add j).block < w.heap.size by rw [block_of_add]; exact hab)).trans (hcs j u hu)
        obtain ⟨cc0, cc1, cc2, cc3, cc4⟩ := cells5 hcs' ecs
        have HTV : Hid (TV encJ w S h0 kk (jcells h0 (.slice A4 kk.len c4'') (.slice A5 h0.keys.length c5))) := Lib.hid ⟨A4, c4'', A5, c5, us2, rfl, htv'⟩
        have HG1 : Hid (getO h k key = some (h0, kk)) := Lib.hid (by rw [HG.out, hp]; exact he)
        have HCL := Lib.hid (clones_any kk.sz (by have := HKS.out; omega) h0 kk _ _ S 65535 w1 (Nat.le_refl _) (by have := deep_at he; have := HKD.out; omega) (by decide) (HTV.out.kept fun p hp => HZ.out.1.cell (HS.out _ hp)) (fun b h => by have := HS.out b h; have := HZ.out.1.size; omega))
        have HCL2 : Hid (Calls Tryz.prog 104 #[.agg #[.int .i64 h0.kind, .int .i64 h0.num, .string ⟨h0.text.toArray⟩, .slice A4 kk.len c4'', .slice A5 h0.keys.length c5], .int .i64 65535] w1 (VPost h0 kk w1)) := HCL
        have hjlt : ((j : Int) < (L : Int)) = True := eq_true (by omega)
        have hjb : j ≤ 4398046511104 := by omega
        clear htv' ecs hcs hcs' he hsz hab hp HI1 HCL HIX
        go_wp2_with fail
        refine HCL2.out.mono ?_
        rintro x w4 ⟨iv, kv, bs, rfl, hot, hnd, hb4⟩
        obtain ⟨⟨A6, c6, rfl⟩, A7, c7, rfl⟩ := ot_form hot
        have HR4 := Lib.hid (HR0.out.below hb4 HR0.out.lt)
        have HZ4 : Hid (Below w.heap.size w w4) := Lib.hid (HZ.out.1.trans (hb4.mono HZ.out.1.size))
        have HOT := Lib.hid hot
        have HLT : Hid (∀ b ∈ bs, b ≠ b0 + 1) := Lib.hid (fun b hb e => by have := (hot.lt b hb).1; have := HR0.out.lt; omega)
        have HLE : Hid (w.heap.size ≤ w1.heap.size) := Lib.hid HZ.out.1.size
        clear hot hb4 f0 f1 f2 f3 f4 c0 c1' c2' c3 c4 d0 d3 d4
        have f0 := HR4.out.frozen 0
        have f1 := HR4.out.frozen 1
        have f2 := HR4.out.frozen 2
        have f3 := HR4.out.frozen 3
        have f4 := HR4.out.frozen 4
        have c0 := HR4.out.cell 0
        have c1' := HR4.out.cell 1
        have c2' := HR4.out.cell 2
        have c3 := HR4.out.cell 3
        have c4 := HR4.out.cell 4
        go_wp2
        refine bodyPost_ret (results_row_tmp (p := 4) (u := 5) rfl _ _ (b0 + 1) 25 _ (0, 0) _ rfl (blk_set5 HR4.out) Tryz.underlying25 rfl (by kernel_rfl)) rfl ?_
        unfold GPost
        rw [HG1.out]
        exact ⟨_, _, bs, rfl, (HOT.out.less HLE.out).kept (fun b hb => heap_set5 b (HLT.out b hb)), hnd, below_set5 HZ4.out (by rw [HZ.out.2]; exact hbb)⟩
      · have HG1 : Hid (getO h k key = none) := Lib.hid (by
          rw [HG.out, hp]
          show (toL k)[j]? = none
          rw [List.getElem?_eq_none]
          rw [toL_len, ← HL.out]; omega)
        have hjlt : ((j : Int) < (L : Int)) = False := eq_false (by omega)
        clear hp HI1 HIX
        go_wp2
        exact bodyPost_ret (results_row_tmp (p := 4) (u := 5) rfl _ _ (b0 + 1) 25 _ (0, 0) _ rfl (blk_set5 HR0.out) Tryz.underlying25 rfl (by kernel_rfl)) rfl (by unfold GPost; rw [HG1.out]; exact ⟨rfl, below_set5 HZ.out.1 (by rw [HZ.out.2]; exact hbb)⟩)
  · have q6 : (h.kind != 6) = true := by simpa using h6
    have HG : Hid (getO h k key = none) := Lib.hid (by unfold getO; rw [if_neg h6])
    clear h6
    go_enter Tryz.func44, Tryz.ntmps44
    go_wp2_with fail
    rw [← hwz, ← hb0]
    exact bodyPost_ret (results_row_tmp (p := 4) (u := 5) rfl _ _ (b0 + 1) 25 _ (0, 0) _ rfl HR0.out Tryz.underlying25 rfl (by kernel_rfl)) rfl (by unfold GPost; rw [HG.out]; exact ⟨rfl, HZ.out.1⟩)
end Js
end Go.Proofs.YtlfeddgpfaigkaaGreatDoor
namespace Go.Proofs.YtlfeddgpfaigkaaGreatDoor
open Go.RowKit
namespace Js
/-- place. -/
theorem placeW_any (A : Option Addr) (n c B : Nat) (l : List (List UInt8)) (s : List UInt8) (w : World) (hr : Reads w B 1 A n (tx l)) (hn : n ≤ 4398046511104) :
    Calls Tryz.prog 81 #[.slice A n c, .string ⟨s.toArray⟩] w fun x w' => x = .returned (.int .i64 (placeI l s)) ∧ w = w' := by
  have hll : l.length = n := by have := hr.1; rw [tx_length] at this; omega
  have HR := Lib.hid hr
  have HLL := Lib.hid hll
  clear hr hll
  go_enter Tryz.func81, Tryz.ntmps81
  go_wp2_with fail
  go_loopw [5] (fun i wr => ∃ j : Nat, j ≤ n ∧ i = .int .i64 j ∧ Hid (s ∉ l.take j) ∧ w = wr) (fun i _ => n - (intOf i).toNat)
  case atStart => exact ⟨0, by omega, rfl, Lib.hid (by simp), rfl⟩
  case round =>
    obtain ⟨j, hj, rfl, HN, rfl⟩ := hrel
    by_cases hlt : j < n
    · obtain ⟨ad, u, rfl, _, hu, hc⟩ := HR.out.at_ hlt
      have hlt2 : j < l.length := by have := HLL.out; omega
      have hxu := tx_get hu hlt2
      subst hxu
      have HX : Hid (l.take (j + 1) = l.take j ++ [l.getD j []] ∧ l[j]? = some (l.getD j [])) := Lib.hid (by
        rw [List.take_succ_eq_append_getElem hlt2]
        simp [List.getD, List.getElem?_eq_getElem hlt2])
      generalize l.getD j [] = x at hc hu HX
      clear hu
      by_cases hsx : s = x
      · subst hsx
        have HP : Hid (placeI l s = (j : Int)) := Lib.hid (by unfold placeI; rw [place_some HX.out.2 HN.out])
        go_wp2
        go_ret
        rw [HP.out]
        exact ⟨rfl, rfl⟩
      · have e1 : (x == s) = false := by simpa using fun e => hsx e.symm
        have HSX := Lib.hid hsx
        clear hsx
        go_wp2_with fail
        refine ⟨⟨j + 1, by omega, by push_cast; rfl, Lib.hid (by
          rw [HX.out.1]
          intro h
          rcases List.mem_append.1 h with h | h
          · exact HN.out h
          · simp at h; exact HSX.out h), trivial⟩, ?_⟩
        show n - ((j : Int) + 1).toNat < n - ((j : Int)).toNat
        omega
    · have hjn : j = n := by omega
      subst hjn
      have HP : Hid (placeI l s = -1) := Lib.hid (by
        have h1 := HN.out
        rw [← HLL.out, List.take_length] at h1
        unfold placeI
        rw [place_none h1])
      go_wp2
      go_ret
      rw [HP.out]
      exact ⟨rfl, rfl⟩
def LikeC (n : Nat) : Prop := ∀ (h h' : Hd) (k k' : F) (iv kv iv' kv' : Value) (S S' : Nat → Prop) (w : World), k.sz ≤ n → likeV h k h' k' = true → wfF (.cons h k .nil) → wfF (.cons h' k' .nil) → TV encJ w S h k (jcells h iv kv) → TV encJ w S' h' k' (jcells h' iv' kv') → (∀ b, S b → b < w.heap.size) → (∀ b, S' b → b < w.heap.size) →
  Calls Tryz.prog 22 #[.agg #[.int .i64 h.kind, .int .i64 h.num, .string ⟨h.text.toArray⟩, iv, kv], .agg #[.int .i64 h'.kind, .int .i64 h'.num, .string ⟨h'.text.toArray⟩, iv', kv']] w fun x w' => x = .returned (.bool true) ∧ Below w.heap.size w w'
theorem tv_parts {w : World} {S : Nat → Prop} {h : Hd} {k : F} {iv kv : Value} (h0 : TV encJ w S h k (jcells h iv kv)) :
    ∃ A c A' c' us, iv = .slice A k.len c ∧ kv = .slice A' h.keys.length c' ∧ k.len ≤ 4398046511104 ∧ h.keys.length ≤ 4398046511104 ∧ RdS w S 5 A k.len us ∧ TR encJ w S k us ∧ RdS w S 1 A' h.keys.length (tx h.keys) := by
  obtain ⟨A1, c1, A2, c2, us, ecs, hlk, ⟨hlq, _⟩, hr1, htr, hr2⟩ := h0
  have eiv : iv = .slice A1 k.len c1 ∧ kv = .slice A2 h.keys.length c2 := by
    simp only [encJ, jcells, List.cons.injEq, and_true, true_and] at ecs
    exact ecs
  obtain ⟨rfl, rfl⟩ := eiv
  exact ⟨A1, c1, A2, c2, us, rfl, rfl, hlk, hlq, hr1, htr, hr2⟩
/-- What is known of two values that are alike. -/
theorem like_parts {h h' : Hd} {k k' : F} (e : likeV h k h' k' = true) : h.kind = h'.kind ∧ (h.kind = 3 → h.num = h'.num) ∧ (h.kind = 4 → h.text = h'.text) ∧ (5 ≤ h.kind → k.len = k'.len ∧ (h.kind = 6 → h.keys.length = h'.keys.length) ∧ likeF k 0 (look h h' k') = true) := by
  unfold likeV baseL at e
  simp only [Bool.and_eq_true, Bool.or_eq_true, decide_eq_true_eq] at e
  obtain ⟨⟨⟨e1, e2⟩, e3⟩, e4⟩ := e
  refine ⟨e1, fun h3 => ?_, fun h4 => ?_, fun h5 => ?_⟩
  · rcases e2 with e2 | e2
    · exact absurd h3 e2
    · exact e2
  · rcases e3 with e3 | e3
    · exact absurd h4 e3
    · exact e3
  · rcases e4 with e4 | ⟨⟨e4, e5⟩, e6⟩
    · omega
    · exact ⟨e4, fun h6 => by rcases e5 with e5 | e5; exact absurd h6 e5; exact e5, e6⟩
/-- The item that stands for item j. -/
theorem like_item {h h' : Hd} {k k' : F} {j : Nat} {h0 : Hd} {kk : F} (e : likeF k 0 (look h h' k') = true) (hj : (toL k)[j]? = some (h0, kk)) :
    ∃ (q : Nat) (h1 : Hd) (k1 : F), (toL k')[q]? = some (h1, k1) ∧ likeV h0 kk h1 k1 = true ∧ (h.kind = 6 → placeI h'.keys (h.keys.getD j []) = (q : Int)) ∧ (h.kind ≠ 6 → q = j) := by
  obtain ⟨h1, k1, e1, e2⟩ := likeF_true.1 e j h0 kk hj
  rw [Nat.zero_add] at e1
  unfold look at e1
  by_cases h6 : h.kind = 6
  · rw [if_pos h6] at e1
    cases hp : placeL h'.keys (h.keys.getD j []) with
    | none => rw [hp] at e1; cases e1
    | some q =>
      rw [hp] at e1
      exact ⟨q, h1, k1, e1, e2, fun _ => by unfold placeI; rw [hp], fun h => absurd h6 h⟩
  · rw [if_neg h6] at e1
    exact ⟨j, h1, k1, e1, e2, fun h => absurd h h6, fun _ => rfl⟩
set_option maxHeartbeats 1600000 in
set_option maxRecDepth 100000 in
theorem like_step (n : Nat) (hC : ∀ m, m < n → LikeC m) : LikeC n := by
  intro h h' k k' iv kv iv' kv' S S' w hk hlike hwf hwf' htv htv' hS hS'
  obtain ⟨A1, c1, A2, c2, us, rfl, rfl, hlk, hlq, hr1, htr, hr2⟩ := tv_parts htv
  obtain ⟨A3, c3, A4, c4, us', rfl, rfl, hlk', hlq', hr3, htr', hr4⟩ := tv_parts htv'
  obtain ⟨ekd, enum, etext, ehigh⟩ := like_parts hlike
  obtain ⟨kd, num, text, keys⟩ := h
  obtain ⟨kd', num', text', keys'⟩ := h'
  simp only at ekd enum etext ehigh hlq hlq' hr2 hr4 ⊢
  subst ekd
  obtain ⟨b0, hb0⟩ : ∃ b0, b0 = w.heap.size := ⟨_, rfl⟩
  obtain ⟨L, hL⟩ : ∃ L, L = k.len := ⟨_, rfl⟩
  obtain ⟨L', hL'⟩ : ∃ L', L' = k'.len := ⟨_, rfl⟩
  obtain ⟨nk, hnk⟩ : ∃ nk, nk = keys.length := ⟨_, rfl⟩
  obtain ⟨nk', hnk'⟩ : ∃ nk', nk' = keys'.length := ⟨_, rfl⟩
  rw [← hL] at hr1 hlk ⊢
  rw [← hL'] at hr3 hlk' ⊢
  rw [← hnk] at hr2 hlq ⊢
  rw [← hnk'] at hr4 hlq' ⊢
  obtain ⟨wz, hwz⟩ : ∃ wz, wz = (w.alloc (.cells #[.int .i64 kd, .int .i64 num, .string ⟨text.toArray⟩, .slice A1 L c1, .slice A2 nk c2] 25)).alloc (.cells #[.int .i64 kd, .int .i64 num', .string ⟨text'.toArray⟩, .slice A3 L' c3, .slice A4 nk' c4] 25) := ⟨_, rfl⟩
  have HBA : Hid (Blk wz b0 25 #[.int .i64 kd, .int .i64 num, .string ⟨text.toArray⟩, .slice A1 L c1, .slice A2 nk c2]) := Lib.hid (by rw [hwz, hb0]; exact Blk.alloc (Blk.new _ _ _) _)
  have HBB : Hid (Blk wz (b0 + 1) 25 #[.int .i64 kd, .int .i64 num', .string ⟨text'.toArray⟩, .slice A3 L' c3, .slice A4 nk' c4]) := Lib.hid (by
    have := Blk.new (w.alloc (.cells #[.int .i64 kd, .int .i64 num, .string ⟨text.toArray⟩, .slice A1 L c1, .slice A2 nk c2] 25)) 25 #[.int .i64 kd, .int .i64 num', .string ⟨text'.toArray⟩, .slice A3 L' c3, .slice A4 nk' c4]
    rw [hwz, hb0]; simpa using this)
  have HZ : Hid (Below w.heap.size w wz) := Lib.hid (by rw [hwz]; exact ((Below.refl _ _).alloc (Nat.le_refl _) _).alloc (by simp) _)
  subst hb0
  have HC := Lib.hid hC
  have HK := Lib.hid hk
  have HS := Lib.hid hS
  have HS' := Lib.hid hS'
  have HTR := Lib.hid htr
  have HTR' := Lib.hid htr'
  have HR1 := Lib.hid (hr1.reads hS)
  have HR2 := Lib.hid (hr2.reads hS)
  have HR3 := Lib.hid (hr3.reads hS')
  have HR4 := Lib.hid (hr4.reads hS')
  have HL := Lib.hid hL
  have HL' := Lib.hid hL'
  have HNK := Lib.hid hnk
  have HNK' := Lib.hid hnk'
  have HWF := Lib.hid hwf
  have HWF' := Lib.hid hwf'
  have HHI := Lib.hid ehigh
  clear hC hk hS hS' htr htr' hr1 hr2 hr3 hr4 hL hL' hnk hnk' hwf hwf' ehigh hlike htv htv'
  have d0 := HBA.out.cell 0
  have d1 := HBA.out.cell 1
  have d2 := HBA.out.cell 2
  have d3 := HBA.out.cell 3
  have d4 := HBA.out.cell 4
  have g0 := HBB.out.cell 0
  have g1 := HBB.out.cell 1
  have g2 := HBB.out.cell 2
  have g3 := HBB.out.cell 3
  have g4 := HBB.out.cell 4
  by_cases h56 : kd = 5 ∨ kd = 6
  · rcases h56 with h56 | h56
    · subst h56
      obtain ⟨hll, hkk, hlf⟩ := HHI.out (show (5 : Int) ≤ 5 by decide)
      have HLF := Lib.hid hlf
      have HLL : Hid (L = L') := Lib.hid (HL.out.trans (hll.trans HL'.out.symm))
      have hLL := HLL.out
      subst hLL
      have q5 : ((5 : Int) == 5) = true := rfl
      clear enum etext hll hlf
      go_enter Tryz.func22, Tryz.ntmps22
      go_wp2_with fail
      clear d0 d1 d2 d3 d4 g0 g1 g2 g3 g4
      go_loopw [5] (fun i wr => ∃ j : Nat, j ≤ L ∧ i = .int .i64 j ∧ Hid (Below wz.heap.size wz wr)) (fun i _ => L - (intOf i).toNat)
      case atStart => exact ⟨0, by omega, rfl, Lib.hid (by rw [hwz]; exact Below.refl _ _)⟩
      case round =>
        clear hwz
        obtain ⟨j, hj, rfl, HB⟩ := hrel
        have HA := Lib.hid (HBA.out.below HB.out HBA.out.lt)
        have HD := Lib.hid (HBB.out.below HB.out HBB.out.lt)
        have HBE : Hid (Below w.heap.size w wr) := Lib.hid (HZ.out.trans (HB.out.mono HZ.out.size))
        have e0 := HA.out.cell 0
        have e3 := HA.out.cell 3
        have e4 := HA.out.cell 4
        have f3 := HD.out.cell 3
        have f4 := HD.out.cell 4
        by_cases hlt : j < L
        · obtain ⟨ad, rfl, hab, hcs⟩ := HR1.out.2 (by omega)
          obtain ⟨h0, kk, he, hsz, htv⟩ := HTR.out.at_ (i := j) (by have := HL.out; omega)
          obtain ⟨q, h1, k1, he1, hlk1, hpl, hnpl⟩ := like_item HLF.out he
          have hqL : q < L := by
            have h2 : q < (toL k').length := by
              rcases Nat.lt_or_ge q (toL k').length with h3 | h3
              · exact h3
              · rw [List.getElem?_eq_none h3] at he1; cases he1
            rw [toL_len, ← HL'.out] at h2
            exact h2
          obtain ⟨ad', rfl, hab', hcs'⟩ := HR3.out.2 (by omega)
          obtain ⟨h1', k1', he1', hsz', htv'⟩ := HTR'.out.at_ (i := q) (by have := HL'.out; omega)
          rw [he1] at he1'
          obtain ⟨rfl, rfl⟩ : h1 = h1' ∧ k1 = k1' := by simpa using he1'
          obtain ⟨A5, c5, A6, c6, us2, ecs, htv2⟩ := htv
          obtain ⟨A7, c7, A8, c8, us3, ecs', htv3⟩ := htv'
          have HTV : Hid (TV encJ w S h0 kk (jcells h0 (.slice A5 kk.len c5) (.slice A6 h0.keys.length c6))) := Lib.hid ⟨A5, c5, A6, c6, us2, rfl, htv2⟩
          have HTV' : Hid (TV encJ w S' h1 k1 (jcells h1 (.slice A7 k1.len c7) (.slice A8 h1.keys.length c8))) := Lib.hid ⟨A7, c7, A8, c8, us3, rfl, htv3⟩
          have HCC : Hid (∀ wy, Below w.heap.size w wy → wy.cell? (ad.add (j * 5)) = some (.int .i64 h0.kind) ∧ wy.cell? ⟨(ad.add (j * 5)).block, (ad.add (j * 5)).off + 1, none⟩ = some (.int .i64 h0.num) ∧ wy.cell? ⟨(ad.add (j * 5)).block, (ad.add (j * 5)).off + 2, none⟩ = some (.string ⟨h0.text.toArray⟩) ∧ wy.cell? ⟨(ad.add (j * 5)).block, (ad.add (j * 5)).off + 3, none⟩ = some (.slice A5 kk.len c5) ∧ wy.cell? ⟨(ad.add (j * 5)).block, (ad.add (j * 5)).off + 4, none⟩ = some (.slice A6 h0.keys.length c6) ∧ wy.cell? (ad'.add (q * 5)) = some (.int .i64 h1.kind) ∧ wy.cell? ⟨(ad'.add (q * 5)).block, (ad'.add (q * 5)).off + 1, none⟩ = some (.int .i64 h1.num) ∧ wy.cell? ⟨(ad'.add (q * 5)).block, (ad'.add (q * 5)).off + 2, none⟩ = some (.string ⟨h1.text.toArray⟩) ∧ wy.cell? ⟨(ad'.add (q * 5)).block, (ad'.add (q * 5)).off + 3, none⟩ = some (.slice A7 k1.len c7) ∧ wy.cell? ⟨(ad'.add (q * 5)).block, (ad'.add (q * 5)).off + 4, none⟩ = some (.slice A8 h1.keys.length c8)) := Lib.hid (fun wy hb => by
            obtain ⟨x0, x1, x2, x3, x4⟩ := cells5 (fun j u hu => (hb.cell (show (ad.add j).block < w.heap.size by rw [block_of_add]; exact hab)).trans (hcs j u hu)) ecs
            obtain ⟨y0, y1, y2, y3, y4⟩ := cells5 (fun j u hu => (hb.cell (show (ad'.add j).block < w.heap.size by rw [block_of_add]; exact hab')).trans (hcs' j u hu)) ecs'
            exact ⟨x0, x1, x2, x3, x4, y0, y1, y2, y3, y4⟩)
          have HCL : Hid (∀ wx, Below w.heap.size w wx → Calls Tryz.prog 22 #[.agg #[.int .i64 h0.kind, .int .i64 h0.num, .string ⟨h0.text.toArray⟩, .slice A5 kk.len c5, .slice A6 h0.keys.length c6], .agg #[.int .i64 h1.kind, .int .i64 h1.num, .string ⟨h1.text.toArray⟩, .slice A7 k1.len c7, .slice A8 h1.keys.length c8]] wx fun x w' => x = .returned (.bool true) ∧ Below wx.heap.size wx w') :=
            Lib.hid fun wx hb => HC.out kk.sz (by have := HK.out; omega) h0 h1 kk k1 _ _ _ _ S S' wx (Nat.le_refl _) hlk1 (wfF_at (HWF.out.2.1 (show (5 : Int) ≤ 5 by decide)) he) (wfF_at (HWF'.out.2.1 (show (5 : Int) ≤ 5 by decide)) he1) (HTV.out.kept fun p hp => hb.cell (HS.out _ hp)) (HTV'.out.kept fun p hp => hb.cell (HS'.out _ hp)) (fun b h => by have := HS.out b h; have := hb.size; omega) (fun b h => by have := HS'.out b h; have := hb.size; omega)
          have HQ := Lib.hid hqL
          have HJK : Hid (j < keys.length ∨ 5 = (5 : Int)) := Lib.hid (.inr rfl)
          have hqj := (hnpl (show ¬ (5 : Int) = 6 by decide)).symm
          subst hqj
          clear hpl hnpl he he1 he1' hsz hsz' ecs ecs' htv2 htv3 hlk1 hab hab' hcs hcs'
          go_upto_region 12 with fail
          have HBX := HB
          have HSS : Hid (∀ wy, Below wz.heap.size wz wy → wy.cell? ⟨w.heap.size, 3, none⟩ = some (.slice (some ad) L c1) ∧ wy.cell? ⟨w.heap.size + 1, 3, none⟩ = some (.slice (some ad' ) L c3) ∧ wy.cell? (ad.add (j * 5)) = some (.int .i64 h0.kind) ∧ wy.cell? ⟨(ad.add (j * 5)).block, (ad.add (j * 5)).off + 1, none⟩ = some (.int .i64 h0.num) ∧ wy.cell? ⟨(ad.add (j * 5)).block, (ad.add (j * 5)).off + 2, none⟩ = some (.string ⟨h0.text.toArray⟩) ∧ wy.cell? ⟨(ad.add (j * 5)).block, (ad.add (j * 5)).off + 3, none⟩ = some (.slice A5 kk.len c5) ∧ wy.cell? ⟨(ad.add (j * 5)).block, (ad.add (j * 5)).off + 4, none⟩ = some (.slice A6 h0.keys.length c6) ∧ wy.cell? (ad'.add (j * 5)) = some (.int .i64 h1.kind) ∧ wy.cell? ⟨(ad'.add (j * 5)).block, (ad'.add (j * 5)).off + 1, none⟩ = some (.int .i64 h1.num) ∧ wy.cell? ⟨(ad'.add (j * 5)).block, (ad'.add (j * 5)).off + 2, none⟩ = some (.string ⟨h1.text.toArray⟩) ∧ wy.cell? ⟨(ad'.add (j * 5)).block, (ad'.add (j * 5)).off + 3, none⟩ = some (.slice A7 k1.len c7) ∧ wy.cell? ⟨(ad'.add (j * 5)).block, (ad'.add (j * 5)).off + 4, none⟩ = some (.slice A8 h1.keys.length c8)) := Lib.hid (fun wy hb => ⟨(HBA.out.below hb HBA.out.lt).cell 3, (HBB.out.below hb HBB.out.lt).cell 3, HCC.out wy (HZ.out.trans (hb.mono HZ.out.size))⟩)
          have hqn : ((j : Int) < 0) = False := eq_false (by omega)
          clear e0 e3 e4 f3 f4
          refine wp_region_held_drew (S := (fun wy => wy.cell? ⟨w.heap.size, 3, none⟩ = some (.slice (some ad) L c1) ∧ wy.cell? ⟨w.heap.size + 1, 3, none⟩ = some (.slice (some ad' ) L c3) ∧ wy.cell? (ad.add (j * 5)) = some (.int .i64 h0.kind) ∧ wy.cell? ⟨(ad.add (j * 5)).block, (ad.add (j * 5)).off + 1, none⟩ = some (.int .i64 h0.num) ∧ wy.cell? ⟨(ad.add (j * 5)).block, (ad.add (j * 5)).off + 2, none⟩ = some (.string ⟨h0.text.toArray⟩) ∧ wy.cell? ⟨(ad.add (j * 5)).block, (ad.add (j * 5)).off + 3, none⟩ = some (.slice A5 kk.len c5) ∧ wy.cell? ⟨(ad.add (j * 5)).block, (ad.add (j * 5)).off + 4, none⟩ = some (.slice A6 h0.keys.length c6) ∧ wy.cell? (ad'.add (j * 5)) = some (.int .i64 h1.kind) ∧ wy.cell? ⟨(ad'.add (j * 5)).block, (ad'.add (j * 5)).off + 1, none⟩ = some (.int .i64 h1.num) ∧ wy.cell? ⟨(ad'.add (j * 5)).block, (ad'.add (j * 5)).off + 2, none⟩ = some (.string ⟨h1.text.toArray⟩) ∧ wy.cell? ⟨(ad'.add (j * 5)).block, (ad'.add (j * 5)).off + 3, none⟩ = some (.slice A7 k1.len c7) ∧ wy.cell? ⟨(ad'.add (j * 5)).block, (ad'.add (j * 5)).off + 4, none⟩ = some (.slice A8 h1.keys.length c8))) (by kernel_rfl) (HSS.out _ HBX.out.drew) (fun hHeld => ?_)
          refine tk 0 (h := ?_)
          try simp only [Act.put, List.setIfInBounds_toArray, List.set_cons_zero, List.set_cons_succ]
          refine tk 1 (h := ?_)
          try simp only [Act.put, List.setIfInBounds_toArray, List.set_cons_zero, List.set_cons_succ]
          refine tk 2 (h := ?_)
          try simp only [Act.put, List.setIfInBounds_toArray, List.set_cons_zero, List.set_cons_succ]
          refine tk 3 (h := ?_)
          try simp only [Act.put, List.setIfInBounds_toArray, List.set_cons_zero, List.set_cons_succ]
          refine tk 4 (h := ?_)
          try simp only [Act.put, List.setIfInBounds_toArray, List.set_cons_zero, List.set_cons_succ]
          refine tk 5 (h := ?_)
          try simp only [Act.put, List.setIfInBounds_toArray, List.set_cons_zero, List.set_cons_succ]
          refine tk 6 (h := ?_)
          try simp only [Act.put, List.setIfInBounds_toArray, List.set_cons_zero, List.set_cons_succ]
          refine tk 7 (h := ?_)
          try simp only [Act.put, List.setIfInBounds_toArray, List.set_cons_zero, List.set_cons_succ]
          refine tk 8 (h := ?_)
          try simp only [Act.put, List.setIfInBounds_toArray, List.set_cons_zero, List.set_cons_succ]
          refine tk 9 (h := ?_)
          try simp only [Act.put, List.setIfInBounds_toArray, List.set_cons_zero, List.set_cons_succ]
          refine tk 10 (h := ?_)
          try simp only [Act.put, List.setIfInBounds_toArray, List.set_cons_zero, List.set_cons_succ]
          refine tk 11 (h := ?_)
          try simp only [Act.put, List.setIfInBounds_toArray, List.set_cons_zero, List.set_cons_succ]
          refine tk 12 (h := ?_)
          try simp only [Act.put, List.setIfInBounds_toArray, List.set_cons_zero, List.set_cons_succ]
          refine wpAnyH_ready (rs := [13]) (by kernel_rfl) (by simp) ?_
          refine rdy (fun K hK => ?_) AllReadyH.nil
          rw [if_pos (by rfl)]
          go_simp
          refine (HCL.out _ (HZ.out.trans (HBX.out.drew.mono HZ.out.size))).mono ?_
          rintro x w4 ⟨rfl, hb4⟩
          have HB4 : Hid (Below wz.heap.size wz w4) := Lib.hid (HBX.out.drew.trans (hb4.mono (HBX.out.drew).size))
          refine hK.out _ _ (HSS.out _ HB4.out) (fun hHeld => ?_)
          clear hK hb4
          try simp only [Act.put, List.setIfInBounds_toArray, List.set_cons_zero, List.set_cons_succ]
          refine tk 14 (h := ?_)
          try simp only [Act.put, List.setIfInBounds_toArray, List.set_cons_zero, List.set_cons_succ]
          refine tk 15 (h := ?_)
          try simp only [Act.put, List.setIfInBounds_toArray, List.set_cons_zero, List.set_cons_succ]
          refine wpAnyH_done (by kernel_rfl) ?_ _
          clear hHeld
          have hLb : L ≤ 4398046511104 := hlk
          go_wp2_with fail
          go_roundw
          case rel => exact ⟨j + 1, by omega, by go_num, HB4⟩
          case measure => simp [intOf]; omega
        · have hjL : j = L := by omega
          subst hjL
          go_wp2
          go_ret
          exact ⟨rfl, HBE.out⟩
    · subst h56
      obtain ⟨hll, hkk, hlf⟩ := HHI.out (show (5 : Int) ≤ 6 by decide)
      have HLF := Lib.hid hlf
      have HLL : Hid (L = L') := Lib.hid (HL.out.trans (hll.trans HL'.out.symm))
      have hLL := HLL.out
      subst hLL
      have hnn : nk = nk' := HNK.out.trans ((hkk rfl).trans HNK'.out.symm)
      subst hnn
      clear enum etext hll hlf
      go_enter Tryz.func22, Tryz.ntmps22
      go_wp2_with fail
      clear d0 d1 d2 d3 d4 g0 g1 g2 g3 g4
      go_loopw [5] (fun i wr => ∃ j : Nat, j ≤ L ∧ i = .int .i64 j ∧ Hid (Below wz.heap.size wz wr)) (fun i _ => L - (intOf i).toNat)
      case atStart => exact ⟨0, by omega, rfl, Lib.hid (by rw [hwz]; exact Below.refl _ _)⟩
      case round =>
        clear hwz
        obtain ⟨j, hj, rfl, HB⟩ := hrel
        have HA := Lib.hid (HBA.out.below HB.out HBA.out.lt)
        have HD := Lib.hid (HBB.out.below HB.out HBB.out.lt)
        have HBE : Hid (Below w.heap.size w wr) := Lib.hid (HZ.out.trans (HB.out.mono HZ.out.size))
        have e0 := HA.out.cell 0
        have e3 := HA.out.cell 3
        have e4 := HA.out.cell 4
        have f3 := HD.out.cell 3
        have f4 := HD.out.cell 4
        by_cases hlt : j < L
        · obtain ⟨ad, rfl, hab, hcs⟩ := HR1.out.2 (by omega)
          obtain ⟨h0, kk, he, hsz, htv⟩ := HTR.out.at_ (i := j) (by have := HL.out; omega)
          obtain ⟨q, h1, k1, he1, hlk1, hpl, hnpl⟩ := like_item HLF.out he
          have hqL : q < L := by
            have h2 : q < (toL k').length := by
              rcases Nat.lt_or_ge q (toL k').length with h3 | h3
              · exact h3
              · rw [List.getElem?_eq_none h3] at he1; cases he1
            rw [toL_len, ← HL'.out] at h2
            exact h2
          obtain ⟨ad', rfl, hab', hcs'⟩ := HR3.out.2 (by omega)
          obtain ⟨h1', k1', he1', hsz', htv'⟩ := HTR'.out.at_ (i := q) (by have := HL'.out; omega)
          rw [he1] at he1'
          obtain ⟨rfl, rfl⟩ : h1 = h1' ∧ k1 = k1' := by simpa using he1'
          obtain ⟨A5, c5, A6, c6, us2, ecs, htv2⟩ := htv
          obtain ⟨A7, c7, A8, c8, us3, ecs', htv3⟩ := htv'
          have HTV : Hid (TV encJ w S h0 kk (jcells h0 (.slice A5 kk.len c5) (.slice A6 h0.keys.length c6))) := Lib.hid ⟨A5, c5, A6, c6, us2, rfl, htv2⟩
          have HTV' : Hid (TV encJ w S' h1 k1 (jcells h1 (.slice A7 k1.len c7) (.slice A8 h1.keys.length c8))) := Lib.hid ⟨A7, c7, A8, c8, us3, rfl, htv3⟩
          have HCC : Hid (∀ wy, Below w.heap.size w wy → wy.cell? (ad.add (j * 5)) = some (.int .i64 h0.kind) ∧ wy.cell? ⟨(ad.add (j * 5)).block, (ad.add (j * 5)).off + 1, none⟩ = some (.int .i64 h0.num) ∧ wy.cell? ⟨(ad.add (j * 5)).block, (ad.add (j * 5)).off + 2, none⟩ = some (.string ⟨h0.text.toArray⟩) ∧ wy.cell? ⟨(ad.add (j * 5)).block, (ad.add (j * 5)).off + 3, none⟩ = some (.slice A5 kk.len c5) ∧ wy.cell? ⟨(ad.add (j * 5)).block, (ad.add (j * 5)).off + 4, none⟩ = some (.slice A6 h0.keys.length c6) ∧ wy.cell? (ad'.add (q * 5)) = some (.int .i64 h1.kind) ∧ wy.cell? ⟨(ad'.add (q * 5)).block, (ad'.add (q * 5)).off + 1, none⟩ = some (.int .i64 h1.num) ∧ wy.cell? ⟨(ad'.add (q * 5)).block, (ad'.add (q * 5)).off + 2, none⟩ = some (.string ⟨h1.text.toArray⟩) ∧ wy.cell? ⟨(ad'.add (q * 5)).block, (ad'.add (q * 5)).off + 3, none⟩ = some (.slice A7 k1.len c7) ∧ wy.cell? ⟨(ad'.add (q * 5)).block, (ad'.add (q * 5)).off + 4, none⟩ = some (.slice A8 h1.keys.length c8)) := Lib.hid (fun wy hb => by
            obtain ⟨x0, x1, x2, x3, x4⟩ := cells5 (fun j u hu => (hb.cell (show (ad.add j).block < w.heap.size by rw [block_of_add]; exact hab)).trans (hcs j u hu)) ecs
            obtain ⟨y0, y1, y2, y3, y4⟩ := cells5 (fun j u hu => (hb.cell (show (ad'.add j).block < w.heap.size by rw [block_of_add]; exact hab')).trans (hcs' j u hu)) ecs'
            exact ⟨x0, x1, x2, x3, x4, y0, y1, y2, y3, y4⟩)
          have HCL : Hid (∀ wx, Below w.heap.size w wx → Calls Tryz.prog 22 #[.agg #[.int .i64 h0.kind, .int .i64 h0.num, .string ⟨h0.text.toArray⟩, .slice A5 kk.len c5, .slice A6 h0.keys.length c6], .agg #[.int .i64 h1.kind, .int .i64 h1.num, .string ⟨h1.text.toArray⟩, .slice A7 k1.len c7, .slice A8 h1.keys.length c8]] wx fun x w' => x = .returned (.bool true) ∧ Below wx.heap.size wx w') :=
            Lib.hid fun wx hb => HC.out kk.sz (by have := HK.out; omega) h0 h1 kk k1 _ _ _ _ S S' wx (Nat.le_refl _) hlk1 (wfF_at (HWF.out.2.1 (show (5 : Int) ≤ 6 by decide)) he) (wfF_at (HWF'.out.2.1 (show (5 : Int) ≤ 6 by decide)) he1) (HTV.out.kept fun p hp => hb.cell (HS.out _ hp)) (HTV'.out.kept fun p hp => hb.cell (HS'.out _ hp)) (fun b h => by have := HS.out b h; have := hb.size; omega) (fun b h => by have := HS'.out b h; have := hb.size; omega)
          have HQ := Lib.hid hqL
          have HJK : Hid (j < keys.length ∨ 6 = (5 : Int)) := Lib.hid (.inl (by have h1 := HWF.out.1 rfl; have h2 := HL.out; simp only at h1; omega))
          clear he he1 he1' hsz hsz' ecs ecs' htv2 htv3 hlk1 hab hab' hcs hcs' hnpl
          have hjn : j < nk := by have h1 := HWF.out.1 rfl; have h2 := HL.out; have h3 := HNK.out; simp only at h1; omega
          obtain ⟨ad2, hA2, _, _⟩ := HR2.out.2 (show 0 < nk by have h1 := HWF.out.1 rfl; have h2 := HL.out; have h3 := HNK.out; simp only at h1; omega)
          subst hA2
          obtain ⟨ad3, u3, e3', _, hu3, hc3⟩ := (HR2.out.below HBE.out).at_ (show j < nk by have h1 := HWF.out.1 rfl; have h2 := HL.out; have h3 := HNK.out; simp only at h1; omega)
          injection e3' with e3'
          subst e3'
          have hxu := tx_get hu3 (show j < keys.length by have h1 := HWF.out.1 rfl; have h2 := HL.out; simp only at h1; omega)
          subst hxu
          have HPL : Hid (∀ m, Calls Tryz.prog 81 #[.slice A4 nk c4, .string ⟨(keys.getD j []).toArray⟩] (wr.drewN m) fun x w' => x = .returned (.int .i64 (q : Int)) ∧ w' = wr.drewN m) := Lib.hid (fun m => by
            have := placeW_any A4 nk c4 w.heap.size keys' (keys.getD j []) (wr.drewN m) ((HR4.out.below HBE.out).drewN m) hlq
            rw [hpl rfl] at this
            exact this.mono fun x w' h => ⟨h.1, h.2.symm⟩)
          clear hpl hu3
          generalize keys.getD j [] = kx at hc3 HPL
          go_upto_region 11 with fail
          go_quiet (exact Calls.quiet_of_same (HPL.out _))
          have HBX : Hid (Below wz.heap.size wz (wr.drewN nq)) := Lib.hid (below_drewN HB.out nq)
          clear HB hc3
          generalize wr.drewN nq = wx at HBX ⊢
          go_upto_region 12 with fail
          have HSS : Hid (∀ wy, Below wz.heap.size wz wy → wy.cell? ⟨w.heap.size, 3, none⟩ = some (.slice (some ad) L c1) ∧ wy.cell? ⟨w.heap.size + 1, 3, none⟩ = some (.slice (some ad' ) L c3) ∧ wy.cell? (ad.add (j * 5)) = some (.int .i64 h0.kind) ∧ wy.cell? ⟨(ad.add (j * 5)).block, (ad.add (j * 5)).off + 1, none⟩ = some (.int .i64 h0.num) ∧ wy.cell? ⟨(ad.add (j * 5)).block, (ad.add (j * 5)).off + 2, none⟩ = some (.string ⟨h0.text.toArray⟩) ∧ wy.cell? ⟨(ad.add (j * 5)).block, (ad.add (j * 5)).off + 3, none⟩ = some (.slice A5 kk.len c5) ∧ wy.cell? ⟨(ad.add (j * 5)).block, (ad.add (j * 5)).off + 4, none⟩ = some (.slice A6 h0.keys.length c6) ∧ wy.cell? (ad'.add (q * 5)) = some (.int .i64 h1.kind) ∧ wy.cell? ⟨(ad'.add (q * 5)).block, (ad'.add (q * 5)).off + 1, none⟩ = some (.int .i64 h1.num) ∧ wy.cell? ⟨(ad'.add (q * 5)).block, (ad'.add (q * 5)).off + 2, none⟩ = some (.string ⟨h1.text.toArray⟩) ∧ wy.cell? ⟨(ad'.add (q * 5)).block, (ad'.add (q * 5)).off + 3, none⟩ = some (.slice A7 k1.len c7) ∧ wy.cell? ⟨(ad'.add (q * 5)).block, (ad'.add (q * 5)).off + 4, none⟩ = some (.slice A8 h1.keys.length c8)) := Lib.hid (fun wy hb => ⟨(HBA.out.below hb HBA.out.lt).cell 3, (HBB.out.below hb HBB.out.lt).cell 3, HCC.out wy (HZ.out.trans (hb.mono HZ.out.size))⟩)
          have hqn : ((q : Int) < 0) = False := eq_false (by omega)
          clear e0 e3 e4 f3 f4
          refine wp_region_held_drew (S := (fun wy => wy.cell? ⟨w.heap.size, 3, none⟩ = some (.slice (some ad) L c1) ∧ wy.cell? ⟨w.heap.size + 1, 3, none⟩ = some (.slice (some ad' ) L c3) ∧ wy.cell? (ad.add (j * 5)) = some (.int .i64 h0.kind) ∧ wy.cell? ⟨(ad.add (j * 5)).block, (ad.add (j * 5)).off + 1, none⟩ = some (.int .i64 h0.num) ∧ wy.cell? ⟨(ad.add (j * 5)).block, (ad.add (j * 5)).off + 2, none⟩ = some (.string ⟨h0.text.toArray⟩) ∧ wy.cell? ⟨(ad.add (j * 5)).block, (ad.add (j * 5)).off + 3, none⟩ = some (.slice A5 kk.len c5) ∧ wy.cell? ⟨(ad.add (j * 5)).block, (ad.add (j * 5)).off + 4, none⟩ = some (.slice A6 h0.keys.length c6) ∧ wy.cell? (ad'.add (q * 5)) = some (.int .i64 h1.kind) ∧ wy.cell? ⟨(ad'.add (q * 5)).block, (ad'.add (q * 5)).off + 1, none⟩ = some (.int .i64 h1.num) ∧ wy.cell? ⟨(ad'.add (q * 5)).block, (ad'.add (q * 5)).off + 2, none⟩ = some (.string ⟨h1.text.toArray⟩) ∧ wy.cell? ⟨(ad'.add (q * 5)).block, (ad'.add (q * 5)).off + 3, none⟩ = some (.slice A7 k1.len c7) ∧ wy.cell? ⟨(ad'.add (q * 5)).block, (ad'.add (q * 5)).off + 4, none⟩ = some (.slice A8 h1.keys.length c8))) (by kernel_rfl) (HSS.out _ HBX.out.drew) (fun hHeld => ?_)
          refine tk 0 (h := ?_)
          try simp only [Act.put, List.setIfInBounds_toArray, List.set_cons_zero, List.set_cons_succ]
          refine tk 1 (h := ?_)
          try simp only [Act.put, List.setIfInBounds_toArray, List.set_cons_zero, List.set_cons_succ]
          refine tk 2 (h := ?_)
          try simp only [Act.put, List.setIfInBounds_toArray, List.set_cons_zero, List.set_cons_succ]
          refine tk 3 (h := ?_)
          try simp only [Act.put, List.setIfInBounds_toArray, List.set_cons_zero, List.set_cons_succ]
          refine tk 4 (h := ?_)
          try simp only [Act.put, List.setIfInBounds_toArray, List.set_cons_zero, List.set_cons_succ]
          refine tk 5 (h := ?_)
          try simp only [Act.put, List.setIfInBounds_toArray, List.set_cons_zero, List.set_cons_succ]
          refine tk 6 (h := ?_)
          try simp only [Act.put, List.setIfInBounds_toArray, List.set_cons_zero, List.set_cons_succ]
          refine tk 7 (h := ?_)
          try simp only [Act.put, List.setIfInBounds_toArray, List.set_cons_zero, List.set_cons_succ]
          refine tk 8 (h := ?_)
          try simp only [Act.put, List.setIfInBounds_toArray, List.set_cons_zero, List.set_cons_succ]
          refine tk 9 (h := ?_)
          try simp only [Act.put, List.setIfInBounds_toArray, List.set_cons_zero, List.set_cons_succ]
          refine tk 10 (h := ?_)
          try simp only [Act.put, List.setIfInBounds_toArray, List.set_cons_zero, List.set_cons_succ]
          refine tk 11 (h := ?_)
          try simp only [Act.put, List.setIfInBounds_toArray, List.set_cons_zero, List.set_cons_succ]
          refine tk 12 (h := ?_)
          try simp only [Act.put, List.setIfInBounds_toArray, List.set_cons_zero, List.set_cons_succ]
          refine wpAnyH_ready (rs := [13]) (by kernel_rfl) (by simp) ?_
          refine rdy (fun K hK => ?_) AllReadyH.nil
          rw [if_pos (by rfl)]
          go_simp
          refine (HCL.out _ (HZ.out.trans (HBX.out.drew.mono HZ.out.size))).mono ?_
          rintro x w4 ⟨rfl, hb4⟩
          have HB4 : Hid (Below wz.heap.size wz w4) := Lib.hid (HBX.out.drew.trans (hb4.mono (HBX.out.drew).size))
          refine hK.out _ _ (HSS.out _ HB4.out) (fun hHeld => ?_)
          clear hK hb4
          try simp only [Act.put, List.setIfInBounds_toArray, List.set_cons_zero, List.set_cons_succ]
          refine tk 14 (h := ?_)
          try simp only [Act.put, List.setIfInBounds_toArray, List.set_cons_zero, List.set_cons_succ]
          refine tk 15 (h := ?_)
          try simp only [Act.put, List.setIfInBounds_toArray, List.set_cons_zero, List.set_cons_succ]
          refine wpAnyH_done (by kernel_rfl) ?_ _
          clear hHeld
          have hLb : L ≤ 4398046511104 := hlk
          go_wp2_with fail
          go_roundw
          case rel => exact ⟨j + 1, by omega, by go_num, HB4⟩
          case measure => simp [intOf]; omega
        · have hjL : j = L := by omega
          subst hjL
          go_wp2
          go_ret
          exact ⟨rfl, HBE.out⟩
  · have q5 : (kd == 5) = false := by rw [beq_eq_false_iff_ne]; omega
    have q6 : (kd == 6) = false := by rw [beq_eq_false_iff_ne]; omega
    by_cases h3 : kd = 3
    · subst h3
      have h2 := enum rfl
      subst h2
      clear enum etext h56
      go_enter Tryz.func22, Tryz.ntmps22
      go_wp2
      go_ret
      rw [← hwz]
      exact ⟨rfl, HZ.out⟩
    · by_cases h4 : kd = 4
      · subst h4
        have h2 := etext rfl
        subst h2
        clear enum etext h56
        go_enter Tryz.func22, Tryz.ntmps22
        go_wp2
        go_ret
        rw [← hwz]
        exact ⟨rfl, HZ.out⟩
      · have q3 : (kd == 3) = false := by rw [beq_eq_false_iff_ne]; omega
        have q4 : (kd == 4) = false := by rw [beq_eq_false_iff_ne]; omega
        clear enum etext h3 h4 h56
        go_enter Tryz.func22, Tryz.ntmps22
        go_wp2
        go_ret
        rw [← hwz]
        exact ⟨rfl, HZ.out⟩
theorem likes_any (n : Nat) : LikeC n := by
  induction n using Nat.strongRecOn with
  | ind n ih => exact like_step n ih
end Js
end Go.Proofs.YtlfeddgpfaigkaaGreatDoor
