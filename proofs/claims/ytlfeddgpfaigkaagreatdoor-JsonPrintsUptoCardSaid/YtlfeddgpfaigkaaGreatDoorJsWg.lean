/-
  The walks of weight, tame, great and rise at this seat's translation; the sorted form of a value is written as the value.
-/
import Derived.Test.YtlfeddgpfaigkaaGreatDoorJsPl
import Derived.Test.YtlfeddgpfaigkaaGreatDoorOpj
import Derived.Test.YtlfeddgpfaigkaaGreatDoorJsGl
import Derived.Sort.Walk0
namespace Go.Proofs.YtlfeddgpfaigkaaGreatDoor
namespace Js
theorem lexL_asymm {a b : List UInt8} (h : lexL a b = true) : lexL b a = false := by
  cases hb : lexL b a with
  | false => rfl
  | true => have := lexL_trans h hb; rw [lexL_irrefl] at this; cases this
theorem sortK_sorted {α : Type} : ∀ {l : List (List UInt8 × α)}, Srt l → sortK l = l
  | [], _ => rfl
  | p :: r, h => by
    have h1 := List.pairwise_cons.1 h
    have ih := sortK_sorted (l := r) h1.2
    show ins p (sortK r) = p :: r
    rw [ih]
    cases r with
    | nil => rfl
    | cons q t =>
      have h2 := h1.1 q (List.mem_cons_self ..)
      show (if lexL q.1 p.1 then q :: ins p t else p :: q :: t) = _
      rw [lexL_asymm h2]
      rfl
theorem forms_ofL (l : List (Hd × F)) : forms (ofL l) = l.map fun p => form p.1 p.2 := by
  induction l with
  | nil => rfl
  | cons p r ih =>
    show formH p.1 (forms p.2) :: forms (ofL r) = _
    rw [ih]
    rfl
theorem zip_map_snd {α β γ : Type} (g : β → γ) : ∀ (a : List α) (b : List β), a.zip (b.map g) = (a.zip b).map fun q => (q.1, g q.2)
  | [], _ => rfl
  | _ :: _, [] => rfl
  | x :: a, y :: b => by simp [zip_map_snd g a b]
theorem zip_fst_snd {α β : Type} : ∀ l : List (α × β), (l.map Prod.fst).zip (l.map Prod.snd) = l
  | [] => rfl
  | p :: r => by simp [zip_fst_snd r]
theorem formV_norm {d : Nat} {h : Hd} {k : F} (hw : wrongs d h k = 0) (hf : 5 ≤ h.kind → forms k = (norms k).map fun p => form p.1 p.2) : form (norm h k).1 (norm h k).2 = form h k := by
  obtain ⟨e0, _⟩ := wrongs_zero hw
  obtain ⟨_, k0, k6, hl, _, hk6⟩ := own_zero e0
  unfold norm normV
  by_cases h3 : h.kind = 3
  · rw [if_pos h3]; simp [form, formH, h3]
  rw [if_neg h3]
  by_cases h4 : h.kind = 4
  · rw [if_pos h4]; simp [form, formH, h4]
  rw [if_neg h4]
  by_cases h5 : h.kind = 5
  · rw [if_pos h5]
    simp only [form, formH, h5, plainH]
    rw [forms_ofL, hf (by omega)]
    rfl
  rw [if_neg h5]
  by_cases h6 : h.kind = 6
  · rw [if_pos h6]
    have hn : ((h.keys.zip (norms k)).map Prod.fst).Nodup := by
      rw [map_fst_zip _ _ (by rw [norms_len]; exact hl h6)]
      exact nodup_of_dupL (hk6 h6).2
    have hs := sortK_srt hn
    have e1 : sortK (h.keys.zip (forms k)) = (sortK (h.keys.zip (norms k))).map fun q => (q.1, form q.2.1 q.2.2) := by
      rw [hf (by omega), zip_map_snd (fun p : Hd × F => form p.1 p.2), sortK_map (fun p : Hd × F => form p.1 p.2)]
    simp only [form, formH, h6]
    rw [forms_ofL, zip_map_snd (fun p : Hd × F => form p.1 p.2), zip_fst_snd, ← sortK_map (fun p : Hd × F => form p.1 p.2), sortK_sorted hs, e1]
    rfl
  · rw [if_neg h6]
    have : h.kind = 0 ∨ h.kind = 1 ∨ h.kind = 2 := by omega
    rcases this with e | e | e <;> simp [form, formH, e, plainH]
theorem forms_norms : ∀ (f : F) (d : Nat), wrongsF d f = 0 → forms f = (norms f).map fun p => form p.1 p.2 := by
  intro f
  induction f with
  | nil => intro d _; rfl
  | cons h k r ih1 ih2 =>
    intro d hw
    obtain ⟨w1, w2⟩ := wrongsF_zero hw
    obtain ⟨_, e1⟩ := wrongs_zero w1
    show formH h (forms k) :: forms r = (normV h (norms k) :: norms r).map _
    rw [List.map_cons, ih2 d w2]
    congr 1
    exact (formV_norm w1 (fun h5 => ih1 (d + 1) (e1 h5))).symm
theorem form_norm {d : Nat} {h : Hd} {k : F} (hw : wrongs d h k = 0) : form (norm h k).1 (norm h k).2 = form h k := by
  obtain ⟨_, e1⟩ := wrongs_zero hw
  exact formV_norm hw (fun h5 => forms_norms k (d + 1) (e1 h5))
/-- What Print answers of what was read of what it wrote. -/
theorem printed_norm {h : Hd} {k : F} (hw : wrongs 1 h k = 0) (hh : NumOk h) (hn : k.All NumOk) (hl : (form h k).length ≤ 4194304) : (printed (norm h k).1 (norm h k).2).2 = 0 ∧ wrongs 1 (norm h k).1 (norm h k).2 = 0 := by
  have hp := parse_form hw hh hn hl
  have hw2 := (parse_good hp).2.2.1
  refine ⟨?_, hw2⟩
  unfold printed
  rw [if_neg (by rw [hw2]; decide), form_norm hw, if_neg (by omega)]
end Js
end Go.Proofs.YtlfeddgpfaigkaaGreatDoor
namespace Go.Proofs.YtlfeddgpfaigkaaGreatDoor
open Go.RowKit
namespace Js
theorem at_mass {f : F} {i : Nat} {h : Hd} {k : F} (e : (toL f)[i]? = some (h, k)) : (F.cons h k .nil).mass ≤ f.mass := by
  induction f generalizing i with
  | nil => simp [toL] at e
  | cons h1 k1 r _ ih =>
    cases i with
    | zero => simp [toL] at e; obtain ⟨rfl, rfl⟩ := e; simp only [F.mass]; omega
    | succ i => have := ih (i := i) (by simpa [toL] using e); simp only [F.mass] at this ⊢; omega
theorem mass_app (f g : F) : (f.app g).mass = f.mass + g.mass := by induction f <;> simp_all [F.app, F.mass] <;> omega
theorem mass_take {f : F} {i : Nat} {h : Hd} {k : F} (e : (toL f)[i]? = some (h, k)) : (f.take (i + 1)).mass = (f.take i).mass + (F.cons h k .nil).mass := by rw [F.take_succ e, mass_app]
theorem mass_take_le (f : F) (i : Nat) : (f.take i).mass ≤ f.mass := by
  obtain ⟨g, hg⟩ := take_app f i
  have := mass_app (f.take i) g
  rw [← hg] at this
  omega
def WeightC (n : Nat) : Prop := ∀ (h : Hd) (k : F) (iv kv : Value) (S : Nat → Prop) (w : World), k.sz ≤ n → (F.cons h k .nil).mass ≤ 1048576 → TV encJ w S h k (jcells h iv kv) → (∀ b, S b → b < w.heap.size) →
  Calls Tryz.prog 31 #[.agg #[.int .i64 h.kind, .int .i64 h.num, .string ⟨h.text.toArray⟩, iv, kv]] w fun x w' => ∃ r : Nat, x = .returned (.int .i64 r) ∧ r ≤ (F.cons h k .nil).mass ∧ Below w.heap.size w w'
set_option maxHeartbeats 1600000 in
set_option maxRecDepth 100000 in
theorem weight_step (n : Nat) (hC : ∀ m, m < n → WeightC m) : WeightC n := by
  intro h k iv kv S w hk hm htv hS
  obtain ⟨A1, c1, A2, c2, us, rfl, rfl, hlk, hlq, hr1, htr, hr2⟩ := tv_parts htv
  obtain ⟨nk, hnk⟩ : ∃ nk, nk = h.keys.length := ⟨_, rfl⟩
  obtain ⟨ni, hni⟩ : ∃ ni, ni = k.len := ⟨_, rfl⟩
  have hmm := hm
  simp only [F.mass] at hmm
  have hnk2 : nk ≤ 1048576 := by omega
  have hni2 : ni ≤ 1048576 := by have := k.len_mass; omega
  have htx : h.text.length ≤ 1048576 := by omega
  rw [← hni] at hr1 ⊢
  rw [← hnk] at hr2 ⊢
  obtain ⟨wz, hwz⟩ : ∃ wz, wz = w.alloc (.cells #[.int .i64 h.kind, .int .i64 h.num, .string ⟨h.text.toArray⟩, .slice A1 ni c1, .slice A2 nk c2] 25) := ⟨_, rfl⟩
  have HBA : Hid (Blk wz w.heap.size 25 #[.int .i64 h.kind, .int .i64 h.num, .string ⟨h.text.toArray⟩, .slice A1 ni c1, .slice A2 nk c2]) := Lib.hid (by rw [hwz]; exact Blk.new _ _ _)
  have HZ : Hid (Below w.heap.size w wz) := Lib.hid (by rw [hwz]; exact (Below.refl _ _).alloc (Nat.le_refl _) _)
  have HC := Lib.hid hC
  have HK := Lib.hid hk
  have HM := Lib.hid hm
  have HMM := Lib.hid hmm
  have HS := Lib.hid hS
  have HTR := Lib.hid htr
  have HR1 := Lib.hid (hr1.reads hS)
  have HR2 := Lib.hid ((hr2.reads hS).below HZ.out)
  have HNI := Lib.hid hni
  have HNK := Lib.hid hnk
  have HX : Hid (∀ x ∈ h.keys, x.length ≤ 1048576) := Lib.hid (fun x hx => by have := mem_total hx; omega)
  clear hC hk hm hS htr hr1 hr2 hnk hni htv hmm
  have d2 := HBA.out.cell 2
  have d4 := HBA.out.cell 4
  go_enter Tryz.func31, Tryz.ntmps31
  go_wp2_with fail
  rw [← hwz]
  clear hwz d2
  go_loopw [3, 4] (fun v i wr => ∃ (j r : Nat), j ≤ nk ∧ i = .int .i64 j ∧ v = .int .i64 r ∧ Hid (r ≤ h.text.length + total (h.keys.take j)) ∧ r ≤ 1048576 ∧ wr = wz) (fun _ i _ => nk - (intOf i).toNat)
  case atStart => exact ⟨0, h.text.length, by omega, rfl, rfl, Lib.hid (by omega), htx, rfl⟩
  case round =>
    obtain ⟨j, r, hj, rfl, rfl, HRR, hrl, hwr⟩ := hrel
    subst hwr
    by_cases hlt : j < nk
    · obtain ⟨ad, u, rfl, _, hu, hc⟩ := HR2.out.at_ hlt
      have hlt2 : j < h.keys.length := by have := HNK.out; omega
      have hxu := tx_get hu hlt2
      subst hxu
      have HT : Hid (total (h.keys.take (j + 1)) = total (h.keys.take j) + (h.keys.getD j []).length) := Lib.hid (total_take_succ _ _ hlt2)
      have HTL : Hid (total (h.keys.take (j + 1)) ≤ total h.keys) := Lib.hid (total_take_le _ _)
      generalize h.keys.getD j [] = x at hc hu HT
      clear hu
      have hr8 : ((r : Int) ≤ 8388608) = True := eq_true (by omega)
      have hsum : r + x.length ≤ 1048576 := by have := HRR.out; have := HT.out; have := HTL.out; have := HMM.out; omega
      go_wp2_with fail
      refine ⟨⟨j + 1, r + x.length, by omega, by push_cast; rfl, by push_cast; rfl, Lib.hid (by have := HRR.out; have := HT.out; omega), hsum, trivial⟩, ?_⟩
      show nk - ((j : Int) + 1).toNat < nk - ((j : Int)).toNat
      omega
    · have hjL : j = nk := by omega
      subst hjL
      have HR0 : Hid (r ≤ h.text.length + total h.keys) := Lib.hid (by have := HRR.out; have := total_take_le h.keys j; omega)
      have d3 := HBA.out.cell 3
      go_wp2_with fail
      clear d3 d4
      obtain ⟨w0, hw0⟩ : ∃ w0, w0 = wr := ⟨_, rfl⟩
      subst hw0
      go_loopw [3, 5] (fun v i wr => ∃ (q r2 : Nat), q ≤ ni ∧ i = .int .i64 q ∧ v = .int .i64 r2 ∧ Hid (r2 ≤ h.text.length + total h.keys + (k.take q).mass) ∧ Hid (Below w0.heap.size w0 wr)) (fun _ i _ => ni - (intOf i).toNat)
      case atStart => exact ⟨0, r, by omega, rfl, rfl, Lib.hid (by have := HR0.out; omega), Lib.hid (Below.refl _ _)⟩
      case round =>
        obtain ⟨q, r2, hq, rfl, rfl, HRR2, HB⟩ := hrel
        have HBB := Lib.hid (HBA.out.below HB.out HBA.out.lt)
        have HBE : Hid (Below w.heap.size w wr) := Lib.hid (HZ.out.trans (HB.out.mono HZ.out.size))
        have d3 := HBB.out.cell 3
        have hr2 : r2 ≤ 1048576 := by have := HRR2.out; have := mass_take_le k q; have := HMM.out; omega
        have hr8 : ((r2 : Int) ≤ 8388608) = True := eq_true (by omega)
        by_cases hlt2 : q < ni
        · obtain ⟨ad, rfl, hab, hcs⟩ := HR1.out.2 (by omega)
          obtain ⟨h0, kk, he, hsz, htv⟩ := HTR.out.at_ (i := q) (by have := HNI.out; omega)
          obtain ⟨A5, c5, A6, c6, us2, ecs, htv2⟩ := htv
          have hcs' := fun j u hu => (HBE.out.cell (show (ad.add j).block < w.heap.size by rw [block_of_add]; exact hab)).trans (hcs j u hu)
          obtain ⟨x0, x1, x2, x3, x4⟩ := cells5 hcs' ecs
          have HMT : Hid ((k.take (q + 1)).mass = (k.take q).mass + (F.cons h0 kk .nil).mass ∧ (k.take (q + 1)).mass ≤ k.mass) := Lib.hid ⟨mass_take he, mass_take_le _ _⟩
          have HCL := Lib.hid (HC.out kk.sz (by have := HK.out; omega) h0 kk (.slice A5 kk.len c5) (.slice A6 h0.keys.length c6) S wr (Nat.le_refl _) (by have := at_mass he; have := HMM.out; omega) ⟨A5, c5, A6, c6, us2, rfl, (RdS.kept htv2.2.2.1 fun p hp => HBE.out.cell (HS.out _ hp)) |> fun _ => ⟨htv2.1, htv2.2.1, htv2.2.2.1.kept fun p hp => HBE.out.cell (HS.out _ hp), htv2.2.2.2.1.kept fun p hp => HBE.out.cell (HS.out _ hp), htv2.2.2.2.2.kept fun p hp => HBE.out.cell (HS.out _ hp)⟩⟩ (fun b h => by have := HS.out b h; have := HBE.out.size; omega))
          clear he hsz htv2 ecs hcs hcs' hab
          go_wp2_with fail
          refine HCL.out.mono ?_
          rintro x w4 ⟨r3, rfl, hr3, hb4⟩
          have hs3 : r2 + r3 ≤ 1048576 := by have := HRR2.out; have := HMT.out; have := HMM.out; omega
          have HB4 : Hid (Below w0.heap.size w0 w4) := Lib.hid (HB.out.trans (hb4.mono HB.out.size))
          clear hb4 HCL x0 x1 x2 x3 x4 d3
          go_wp2_with fail
          go_roundw
          case rel => exact ⟨q + 1, r2 + r3, by omega, by go_num, by go_num, Lib.hid (by have := HRR2.out; have := HMT.out; omega), HB4⟩
          case measure => simp [intOf]; omega
        · have hqn : q = ni := by omega
          subst hqn
          go_wp2
          go_ret
          exact ⟨r2, rfl, by have := HRR2.out; have := mass_take_le k q; simp only [F.mass]; omega, HBE.out⟩
theorem weights_any (n : Nat) : WeightC n := by
  induction n using Nat.strongRecOn with
  | ind n ih => exact weight_step n ih
theorem rises_at : ∀ {l : List (List UInt8)} {i : Nat} {x y : List UInt8}, risesL l = true → l[i]? = some x → l[i + 1]? = some y → lexL x y = true
  | [], i, x, y, _, h, _ => by simp at h
  | [a], i, x, y, _, h, h' => by simp at h'
  | a :: b :: r, 0, x, y, h, h1, h2 => by
    simp at h1 h2
    subst h1 h2
    simp only [risesL, Bool.and_eq_true] at h
    exact h.1
  | a :: b :: r, i + 1, x, y, h, h1, h2 => by
    simp only [risesL, Bool.and_eq_true] at h
    exact rises_at (l := b :: r) (i := i) h.2 (by simpa using h1) (by simpa using h2)
theorem less_of {x y : List UInt8} (h : lexL x y = true) : Op.bytesLess x y = true := by
  rw [bytesLess_eq, decide_eq_true_eq]
  exact (lexL_lt x y).1 h
theorem riseF_at {f : F} (hr : riseF f = true) {i : Nat} {h : Hd} {k : F} (e : (toL f)[i]? = some (h, k)) : risesL h.keys = true ∧ riseF k = true := by
  induction f generalizing i with
  | nil => simp [toL] at e
  | cons h1 k1 r _ ih =>
    simp only [riseF, Bool.and_eq_true] at hr
    cases i with
    | zero => simp [toL] at e; obtain ⟨rfl, rfl⟩ := e; exact ⟨hr.1.1, hr.1.2⟩
    | succ i => exact ih hr.2 (by simpa [toL] using e)
end Js
end Go.Proofs.YtlfeddgpfaigkaaGreatDoor
namespace Go.Proofs.YtlfeddgpfaigkaaGreatDoor
open Go.RowKit
namespace Js
def TameC (n : Nat) : Prop := ∀ (h : Hd) (k : F) (iv kv : Value) (S : Nat → Prop) (lv lb L : Nat) (w : World), k.sz ≤ n → (F.cons h k .nil).mass ≤ 1048576 → lv ≤ 65536 → L ≤ 100000 → TV encJ w S h k (jcells h iv kv) → (∀ b, S b → b < w.heap.size) → ¬ S lb → Blk w lb 3 #[.int .i64 L] →
  Calls Tryz.prog 83 #[.agg #[.int .i64 h.kind, .int .i64 h.num, .string ⟨h.text.toArray⟩, iv, kv], .int .i64 lv, .pointer (some ⟨lb, 0, none⟩)] w fun x w' => ∃ (b : Bool) (L' : Nat), x = .returned (.bool b) ∧ L' ≤ 100000 ∧ Blk w' lb 3 #[.int .i64 L'] ∧ Kp w.heap.size (· = lb) w w'
set_option maxHeartbeats 1600000 in
set_option maxRecDepth 100000 in
theorem tame_step (n : Nat) (hC : ∀ m, m < n → TameC m) : TameC n := by
  intro h k iv kv S lv lb L w hk hm hlv hL htv hS hnS hlb
  obtain ⟨A1, c1, A2, c2, us, rfl, rfl, hlk, hlq, hr1, htr, hr2⟩ := tv_parts htv
  obtain ⟨nk, hnk⟩ : ∃ nk, nk = h.keys.length := ⟨_, rfl⟩
  obtain ⟨ni, hni⟩ : ∃ ni, ni = k.len := ⟨_, rfl⟩
  have hmm := hm
  simp only [F.mass] at hmm
  have hnk2 : nk ≤ 1048576 := by omega
  have hni2 : ni ≤ 1048576 := by have := k.len_mass; omega
  have htx : h.text.length ≤ 1048576 := by omega
  rw [← hni] at hr1 ⊢
  rw [← hnk] at hr2 ⊢
  obtain ⟨wz, hwz⟩ : ∃ wz, wz = w.alloc (.cells #[.int .i64 h.kind, .int .i64 h.num, .string ⟨h.text.toArray⟩, .slice A1 ni c1, .slice A2 nk c2] 25) := ⟨_, rfl⟩
  have HBA : Hid (Blk wz w.heap.size 25 #[.int .i64 h.kind, .int .i64 h.num, .string ⟨h.text.toArray⟩, .slice A1 ni c1, .slice A2 nk c2]) := Lib.hid (by rw [hwz]; exact Blk.new _ _ _)
  have HLB : Hid (Blk wz lb 3 #[.int .i64 L]) := Lib.hid (by rw [hwz]; exact hlb.alloc _)
  have HZ : Hid (Below w.heap.size w wz ∧ lb < w.heap.size) := Lib.hid (by rw [hwz]; exact ⟨(Below.refl _ _).alloc (Nat.le_refl _) _, hlb.lt⟩)
  have HC := Lib.hid hC
  have HK := Lib.hid hk
  have HM := Lib.hid hm
  have HS := Lib.hid hS
  have HNS := Lib.hid hnS
  have HTR := Lib.hid htr
  have HR1 := Lib.hid (hr1.reads hS)
  have HRS := Lib.hid hr1
  have HNI := Lib.hid hni
  clear hC hk hm hS hnS htr hr1 hr2 hnk hni htv hlb hmm
  have d0 := HBA.out.cell 0
  have d2 := HBA.out.cell 2
  have d3 := HBA.out.cell 3
  have d4 := HBA.out.cell 4
  have l0 := HLB.out.cell 0
  have g0 := HLB.out.frozen 0
  obtain ⟨q, hq⟩ : ∃ q, q = 1 + h.text.length / 64 + nk := ⟨_, rfl⟩
  go_enter Tryz.func83, Tryz.ntmps83
  go_upto_region 2 with fail
  rw [← hwz]
  clear hwz
  rw [show (1 + (h.text.length : Int) / 64 + (nk : Int)) = (q : Int) by omega]
  have hq2 : q ≤ 4194304 := by omega
  clear hq
  by_cases hc1 : L < q
  · have e1 : ((L : Int) < (q : Int)) = True := eq_true (by omega)
    clear hc1
    go_quiet (fail)
    have HZX : Hid (Below w.heap.size w (wz.drewN nq)) := Lib.hid (below_drewN HZ.out.1 nq)
    have HLX : Hid (Blk (wz.drewN nq) lb 3 #[.int .i64 L]) := Lib.hid HLB.out
    clear d0 d2 d3 d4 l0 g0
    generalize wz.drewN nq = wx at HZX HLX ⊢
    go_wp2
    go_ret
    exact ⟨false, L, rfl, hL, HLX.out, Kp.of_below HZX.out⟩
  have e1 : ((L : Int) < (q : Int)) = False := eq_false (by omega)
  by_cases hc2 : lv = 0
  · have e2 : ((lv : Int) == 0) = true := by rw [beq_iff_eq]; omega
    go_quiet (fail)
    have HZX : Hid (Below w.heap.size w (wz.drewN nq)) := Lib.hid (below_drewN HZ.out.1 nq)
    have HLX : Hid (Blk (wz.drewN nq) lb 3 #[.int .i64 L]) := Lib.hid HLB.out
    clear d0 d2 d3 d4 l0 g0
    generalize wz.drewN nq = wx at HZX HLX ⊢
    go_wp2
    go_ret
    exact ⟨false, L, rfl, hL, HLX.out, Kp.of_below HZX.out⟩
  have e2 : ((lv : Int) == 0) = false := by rw [beq_eq_false_iff_ne]; omega
  by_cases hc3 : L < ni
  · have e3 : ((L : Int) < (ni : Int)) = True := eq_true (by omega)
    clear hc3
    go_quiet (fail)
    have HZX : Hid (Below w.heap.size w (wz.drewN nq)) := Lib.hid (below_drewN HZ.out.1 nq)
    have HLX : Hid (Blk (wz.drewN nq) lb 3 #[.int .i64 L]) := Lib.hid HLB.out
    clear d0 d2 d3 d4 l0 g0
    generalize wz.drewN nq = wx at HZX HLX ⊢
    go_wp2
    go_ret
    exact ⟨false, L, rfl, hL, HLX.out, Kp.of_below HZX.out⟩
  have e3 : ((L : Int) < (ni : Int)) = False := eq_false (by omega)
  go_quiet (fail)
  have HZX : Hid (Below w.heap.size w (wz.drewN nq)) := Lib.hid (below_drewN HZ.out.1 nq)
  have HLX : Hid (Blk (wz.drewN nq) lb 3 #[.int .i64 L]) := Lib.hid HLB.out
  have HBX : Hid (Blk (wz.drewN nq) w.heap.size 25 #[.int .i64 h.kind, .int .i64 h.num, .string ⟨h.text.toArray⟩, .slice A1 ni c1, .slice A2 nk c2]) := Lib.hid HBA.out
  clear d0 d2 d3 d4 l0 g0 HBA HLB e1 e2 e3
  generalize wz.drewN nq = wx at HZX HLX HBX ⊢
  have l0 := HLX.out.cell 0
  have g0 := HLX.out.frozen 0
  have d3 := HBX.out.cell 3
  obtain ⟨L2, hL2⟩ : ∃ L2, L2 = L - q := ⟨_, rfl⟩
  have hL2' : ((L : Int) - (q : Int)) = (L2 : Int) := by omega
  have hL3 : L2 ≤ 100000 := by omega
  go_wp2_with fail
  obtain ⟨ws, hws⟩ : ∃ ws, ws = wx.setCell ⟨lb, 0, none⟩ (.int .i64 ((L - q : Nat) : Int)) := ⟨_, rfl⟩
  have HLS : Hid (Blk ws lb 3 #[.int .i64 ((L - q : Nat) : Int)]) := Lib.hid (by rw [hws]; exact HLX.out.set_ 0 _)
  have HBS : Hid (Blk ws w.heap.size 25 #[.int .i64 h.kind, .int .i64 h.num, .string ⟨h.text.toArray⟩, .slice A1 ni c1, .slice A2 nk c2]) := Lib.hid (by rw [hws]; exact HBX.out.far (by have := HZ.out.2; show w.heap.size ≠ lb; omega) _)
  have HKS : Hid (Kp w.heap.size (· = lb) w ws) := Lib.hid (by rw [hws]; exact (Kp.of_below (X := (· = lb)) HZX.out).setCell (p := ⟨lb, 0, none⟩) (.inr rfl) _)
  have HLT : Hid (lb < w.heap.size ∧ w.heap.size < ws.heap.size) := Lib.hid ⟨HZ.out.2, HBS.out.lt⟩
  clear l0 g0 d3 HLX HBX HZX
  rw [← hws]
  clear hws
  go_loopw [8] (fun i wr => ∃ (j L' : Nat), j ≤ ni ∧ i = .int .i64 j ∧ L' ≤ 100000 ∧ Hid (Blk wr lb 3 #[.int .i64 L']) ∧ Hid (Blk wr w.heap.size 25 #[.int .i64 h.kind, .int .i64 h.num, .string ⟨h.text.toArray⟩, .slice A1 ni c1, .slice A2 nk c2]) ∧ Hid (Kp w.heap.size (· = lb) w wr)) (fun i _ => ni - (intOf i).toNat)
  case atStart => exact ⟨0, L - q, by omega, rfl, by omega, HLS, HBS, HKS⟩
  case round =>
    clear HLS HBS HKS
    obtain ⟨j, L', hj, rfl, hL', HLW, HBW, HKW⟩ := hrel
    have d3 := HBW.out.cell 3
    by_cases hlt : j < ni
    · obtain ⟨ad, rfl, hSad, hcs⟩ := HRS.out.2 (by omega)
      obtain ⟨h0, kk, he, hsz, htv⟩ := HTR.out.at_ (i := j) (by have := HNI.out; omega)
      obtain ⟨A5, c5, A6, c6, us2, ecs, htv2⟩ := htv
      have hne : ∀ b, S b → b < w.heap.size ∧ ¬ b = lb := fun b hb => ⟨HS.out b hb, fun e => HNS.out (e ▸ hb)⟩
      have hcs' := fun j u hu => (HKW.out.cell (show (ad.add j).block < w.heap.size by rw [block_of_add]; exact (hne _ hSad).1) (by rw [block_of_add]; exact (hne _ hSad).2)).trans (hcs j u hu)
      obtain ⟨x0, x1, x2, x3, x4⟩ := cells5 hcs' ecs
      have htv3 : TV encJ w S h0 kk (jcells h0 (.slice A5 kk.len c5) (.slice A6 h0.keys.length c6)) := ⟨A5, c5, A6, c6, us2, rfl, htv2⟩
      have hlv1 : ((lv : Int) - 1) = ((lv - 1 : Nat) : Int) := by omega
      have HCL := Lib.hid (HC.out kk.sz (by have := HK.out; omega) h0 kk (.slice A5 kk.len c5) (.slice A6 h0.keys.length c6) S (lv - 1) lb L' wr (Nat.le_refl _) (by have := at_mass he; have := HM.out; simp only [F.mass] at this; simp only [F.mass] at *; omega) (by omega) hL' (htv3.kept fun p hp => HKW.out.cell (hne _ hp).1 (hne _ hp).2) (fun b h => by have := HS.out b h; have := HKW.out.size; omega) HNS.out HLW.out)
      rw [← hlv1] at HCL
      clear he hsz htv2 htv3 ecs hcs hcs' hSad hlv1
      go_wp2_with fail
      refine HCL.out.mono ?_
      rintro x w4 ⟨b, L4, rfl, hL4, hlb4, hk4⟩
      have HL4 := Lib.hid hlb4
      have HB4 := Lib.hid (hk4.blk HBW.out HBW.out.lt (by have := HLT.out; omega))
      have HK4 : Hid (Kp w.heap.size (· = lb) w w4) := Lib.hid (HKW.out.trans (hk4.less HKW.out.size))
      clear hlb4 hk4 HCL x0 x1 x2 x3 x4 d3
      cases b
      · go_wp2
        go_ret
        exact ⟨false, L4, rfl, hL4, HL4.out, HK4.out⟩
      · go_wp2_with fail
        go_roundw
        case rel => exact ⟨j + 1, L4, by omega, by go_num, hL4, HL4, HB4, HK4⟩
        case measure => simp [intOf]; omega
    · have hjn : j = ni := by omega
      subst hjn
      go_wp2
      go_ret
      exact ⟨true, L', rfl, hL', HLW.out, HKW.out⟩
theorem tames_any (n : Nat) : TameC n := by
  induction n using Nat.strongRecOn with
  | ind n ih => exact tame_step n ih
/-- TameJson. -/
theorem tameJson_any (h : Hd) (k : F) (iv kv : Value) (S : Nat → Prop) (w : World) (hm : (F.cons h k .nil).mass ≤ 1048576) (htv : TV encJ w S h k (jcells h iv kv)) (hS : ∀ b, S b → b < w.heap.size) :
    Calls Tryz.prog 30 #[.agg #[.int .i64 h.kind, .int .i64 h.num, .string ⟨h.text.toArray⟩, iv, kv]] w fun x w' => ∃ b : Bool, x = .returned (.bool b) ∧ Below w.heap.size w w' := by
  obtain ⟨A1, c1, A2, c2, us, rfl, rfl, _⟩ := tv_parts htv
  obtain ⟨wz, hwz⟩ : ∃ wz, wz = (w.alloc (.cells #[.int .i64 h.kind, .int .i64 h.num, .string ⟨h.text.toArray⟩, .slice A1 k.len c1, .slice A2 h.keys.length c2] 25)).alloc (.cells #[.int .i64 100000] 3) := ⟨_, rfl⟩
  have HBA : Hid (Blk wz w.heap.size 25 #[.int .i64 h.kind, .int .i64 h.num, .string ⟨h.text.toArray⟩, .slice A1 k.len c1, .slice A2 h.keys.length c2]) := Lib.hid (by rw [hwz]; exact (Blk.new _ _ _).alloc _)
  have HLB : Hid (Blk wz (w.heap.size + 1) 3 #[.int .i64 ((100000 : Nat) : Int)]) := Lib.hid (by
    have := Blk.new (w.alloc (.cells #[.int .i64 h.kind, .int .i64 h.num, .string ⟨h.text.toArray⟩, .slice A1 k.len c1, .slice A2 h.keys.length c2] 25)) 3 #[.int .i64 100000]
    rw [hwz]; simpa using this)
  have HZ : Hid (Below w.heap.size w wz ∧ w.heap.size + 2 = wz.heap.size) := Lib.hid (by rw [hwz]; exact ⟨((Below.refl _ _).alloc (Nat.le_refl _) _).alloc (by simp) _, by simp⟩)
  have HCL := Lib.hid (tames_any k.sz h k _ _ S 65536 (w.heap.size + 1) 100000 wz (Nat.le_refl _) hm (Nat.le_refl _) (Nat.le_refl _) (htv.kept fun p hp => HZ.out.1.cell (hS _ hp)) (fun b hb => by have := hS b hb; have := HZ.out.2; omega) (fun e => by have := hS _ e; omega) HLB.out)
  have HCL2 : Hid (Calls Tryz.prog 83 #[.agg #[.int .i64 h.kind, .int .i64 h.num, .string ⟨h.text.toArray⟩, .slice A1 k.len c1, .slice A2 h.keys.length c2], .int .i64 65536, .pointer (some ⟨w.heap.size + 1, 0, none⟩)] wz fun x w' => ∃ (b : Bool) (L' : Nat), x = .returned (.bool b) ∧ L' ≤ 100000 ∧ Blk w' (w.heap.size + 1) 3 #[.int .i64 L'] ∧ Kp wz.heap.size (· = w.heap.size + 1) wz w') := HCL
  have d0 := HBA.out.cell 0
  have d1 := HBA.out.cell 1
  have d2 := HBA.out.cell 2
  have d3 := HBA.out.cell 3
  have d4 := HBA.out.cell 4
  clear htv hS HCL
  go_enter Tryz.func30, Tryz.ntmps30
  go_upto_region 2 with fail
  rw [← hwz]
  clear hwz
  go_wp2_with fail
  refine HCL2.out.mono ?_
  rintro x w4 ⟨b, L4, rfl, _, _, hk4⟩
  have HB4 : Hid (Below w.heap.size w w4) := Lib.hid (HZ.out.1.trans (Kp.below ((hk4.less HZ.out.1.size).mono (Nat.le_refl _) (fun k hk e => by omega))))
  clear hk4 HCL2 d0 d1 d2 d3 d4
  go_wp2
  go_ret
  exact ⟨b, rfl, HB4.out⟩
/-- great. -/
theorem great_any (h : Hd) (k : F) (iv kv : Value) (S : Nat → Prop) (w : World) (hm : (F.cons h k .nil).mass ≤ 1048576) (htv : TV encJ w S h k (jcells h iv kv)) (hS : ∀ b, S b → b < w.heap.size) :
    Calls Tryz.prog 9 #[.agg #[.int .i64 h.kind, .int .i64 h.num, .string ⟨h.text.toArray⟩, iv, kv]] w fun x w' => ∃ b : Bool, x = .returned (.bool b) ∧ Below w.heap.size w w' := by
  obtain ⟨A1, c1, A2, c2, us, rfl, rfl, _⟩ := tv_parts htv
  obtain ⟨wz, hwz⟩ : ∃ wz, wz = w.alloc (.cells #[.int .i64 h.kind, .int .i64 h.num, .string ⟨h.text.toArray⟩, .slice A1 k.len c1, .slice A2 h.keys.length c2] 25) := ⟨_, rfl⟩
  have HBA : Hid (Blk wz w.heap.size 25 #[.int .i64 h.kind, .int .i64 h.num, .string ⟨h.text.toArray⟩, .slice A1 k.len c1, .slice A2 h.keys.length c2]) := Lib.hid (by rw [hwz]; exact Blk.new _ _ _)
  have HZ : Hid (Below w.heap.size w wz) := Lib.hid (by rw [hwz]; exact (Below.refl _ _).alloc (Nat.le_refl _) _)
  have HTV := Lib.hid (htv.kept (w' := wz) fun p hp => HZ.out.cell (hS _ hp))
  have HS : Hid (∀ b, S b → b < wz.heap.size) := Lib.hid (fun b hb => by have := hS b hb; have := HZ.out.size; omega)
  have HT := Lib.hid (tameJson_any h k _ _ S wz hm HTV.out HS.out)
  have HM := Lib.hid hm
  clear htv hS hm
  go_enter Tryz.func9, Tryz.ntmps9
  go_wp2_with fail
  rw [← hwz]
  clear hwz
  refine HT.out.mono ?_
  rintro x w1 ⟨b, rfl, hb1⟩
  have HB1 := Lib.hid (HBA.out.below hb1 HBA.out.lt)
  have HW1 : Hid (Below w.heap.size w w1) := Lib.hid (HZ.out.trans (hb1.mono HZ.out.size))
  have HWG := Lib.hid (weights_any k.sz h k _ _ S w1 (Nat.le_refl _) HM.out (HTV.out.kept fun p hp => hb1.cell (HS.out _ hp)) (fun b hb => by have := HS.out b hb; have := hb1.size; omega))
  clear hb1 HT
  have d0 := HB1.out.cell 0
  have d1 := HB1.out.cell 1
  have d2 := HB1.out.cell 2
  have d3 := HB1.out.cell 3
  have d4 := HB1.out.cell 4
  cases b
  · go_wp2
    go_ret
    exact ⟨true, rfl, HW1.out⟩
  · go_wp2_with fail
    refine HWG.out.mono ?_
    rintro x w2 ⟨r, rfl, _, hb2⟩
    have HW2 : Hid (Below w.heap.size w w2) := Lib.hid (HW1.out.trans (hb2.mono HW1.out.size))
    clear hb2 HWG d0 d1 d2 d3 d4
    go_wp2
    go_ret
    exact ⟨_, rfl, HW2.out⟩
end Js
end Go.Proofs.YtlfeddgpfaigkaaGreatDoor
namespace Go.Proofs.YtlfeddgpfaigkaaGreatDoor
open Go.RowKit
namespace Js
def RiseC (n : Nat) : Prop := ∀ (h : Hd) (k : F) (iv kv : Value) (S : Nat → Prop) (w : World), k.sz ≤ n → risesL h.keys = true → riseF k = true → TV encJ w S h k (jcells h iv kv) → (∀ b, S b → b < w.heap.size) →
  Calls Tryz.prog 23 #[.agg #[.int .i64 h.kind, .int .i64 h.num, .string ⟨h.text.toArray⟩, iv, kv]] w fun x w' => x = .returned (.bool true) ∧ Below w.heap.size w w'
set_option maxHeartbeats 1600000 in
set_option maxRecDepth 100000 in
theorem rise_step (n : Nat) (hC : ∀ m, m < n → RiseC m) : RiseC n := by
  intro h k iv kv S w hk hr1' hr2' htv hS
  obtain ⟨A1, c1, A2, c2, us, rfl, rfl, hlk, hlq, hr1, htr, hr2⟩ := tv_parts htv
  obtain ⟨nk, hnk⟩ : ∃ nk, nk = h.keys.length := ⟨_, rfl⟩
  obtain ⟨ni, hni⟩ : ∃ ni, ni = k.len := ⟨_, rfl⟩
  rw [← hni] at hr1 hlk ⊢
  rw [← hnk] at hr2 hlq ⊢
  obtain ⟨wz, hwz⟩ : ∃ wz, wz = w.alloc (.cells #[.int .i64 h.kind, .int .i64 h.num, .string ⟨h.text.toArray⟩, .slice A1 ni c1, .slice A2 nk c2] 25) := ⟨_, rfl⟩
  have HBA : Hid (Blk wz w.heap.size 25 #[.int .i64 h.kind, .int .i64 h.num, .string ⟨h.text.toArray⟩, .slice A1 ni c1, .slice A2 nk c2]) := Lib.hid (by rw [hwz]; exact Blk.new _ _ _)
  have HZ : Hid (Below w.heap.size w wz) := Lib.hid (by rw [hwz]; exact (Below.refl _ _).alloc (Nat.le_refl _) _)
  have HC := Lib.hid hC
  have HK := Lib.hid hk
  have HRI := Lib.hid (And.intro hr1' hr2')
  have HS := Lib.hid hS
  have HTR := Lib.hid htr
  have HR1 := Lib.hid (hr1.reads hS)
  have HR2 := Lib.hid ((hr2.reads hS).below HZ.out)
  have HNI := Lib.hid hni
  have HNK := Lib.hid hnk
  clear hC hk hS htr hr1 hr2 hnk hni htv hr1' hr2'
  have d4 := HBA.out.cell 4
  go_enter Tryz.func23, Tryz.ntmps23
  go_wp2_with fail
  rw [← hwz]
  clear hwz d4
  go_loopw [3] (fun i wr => ∃ (j : Nat), 1 ≤ j ∧ j ≤ nk + 1 ∧ i = .int .i64 j ∧ Hid (Below wz.heap.size wz wr)) (fun i _ => nk - (intOf i).toNat)
  case atStart => exact ⟨1, by omega, by omega, rfl, Lib.hid (Below.refl _ _)⟩
  case round =>
    obtain ⟨j, hj1, hj, rfl, HB⟩ := hrel
    have HBB := Lib.hid (HBA.out.below HB.out HBA.out.lt)
    have HR2' := Lib.hid (HR2.out.below (HB.out.mono HZ.out.size))
    have d4 := HBB.out.cell 4
    by_cases hlt : j < nk
    · obtain ⟨ad, u, rfl, _, hu, hc⟩ := HR2'.out.at_ hlt
      obtain ⟨ad', u', e', _, hu', hc'⟩ := HR2'.out.at_ (show j - 1 < nk by omega)
      injection e' with e'
      subst e'
      have hxu := tx_get hu (show j < h.keys.length by have := HNK.out; omega)
      have hxu' := tx_get hu' (show j - 1 < h.keys.length by have := HNK.out; omega)
      subst hxu hxu'
      have HG := Lib.hid (less_of (rises_at (i := j - 1) HRI.out.1 (x := h.keys.getD (j - 1) []) (y := h.keys.getD j []) (by rw [List.getD, List.getElem?_eq_getElem (show j - 1 < h.keys.length by have := HNK.out; omega)]; rfl) (by rw [show j - 1 + 1 = j by omega, List.getD, List.getElem?_eq_getElem (show j < h.keys.length by have := HNK.out; omega)]; rfl)))
      generalize h.keys.getD (j - 1) [] = x at hc' HG hu'
      generalize h.keys.getD j [] = y at hc HG hu
      clear hu hu'
      have hj1' : ((j : Int) - 1) = ((j - 1 : Nat) : Int) := by omega
      have hjl : j - 1 < nk := by omega
      go_wp2_with fail
      go_quiet (fail)
      have HBX : Hid (Below wz.heap.size wz (wr.drewN nq)) := Lib.hid (below_drewN HB.out nq)
      clear HB HBB HR2' d4 hc hc' hj1'
      generalize wr.drewN nq = wx at HBX ⊢
      rw [HG.out]
      go_wp2_with fail
      refine ⟨⟨j + 1, by omega, by omega, by push_cast; rfl, HBX⟩, ?_⟩
      show nk - ((j : Int) + 1).toNat < nk - ((j : Int)).toNat
      omega
    · have d3 := HBB.out.cell 3
      have hjn : ((j : Int) < (nk : Int)) = False := eq_false (by omega)
      go_wp2_with fail
      clear d3 d4 HBB HR2'
      obtain ⟨w0, hw0⟩ : ∃ w0, w0 = wr := ⟨_, rfl⟩
      subst hw0
      go_loopw [4] (fun i wr => ∃ (q : Nat), q ≤ ni ∧ i = .int .i64 q ∧ Hid (Below wz.heap.size wz wr)) (fun i _ => ni - (intOf i).toNat)
      case atStart => exact ⟨0, by omega, rfl, HB⟩
      case round =>
        clear HB
        obtain ⟨q, hq, rfl, HB⟩ := hrel
        have HBB := Lib.hid (HBA.out.below HB.out HBA.out.lt)
        have HBE : Hid (Below w.heap.size w wr) := Lib.hid (HZ.out.trans (HB.out.mono HZ.out.size))
        have d3 := HBB.out.cell 3
        by_cases hlt2 : q < ni
        · obtain ⟨ad, rfl, hab, hcs⟩ := HR1.out.2 (by omega)
          obtain ⟨h0, kk, he, hsz, htv⟩ := HTR.out.at_ (i := q) (by have := HNI.out; omega)
          obtain ⟨A5, c5, A6, c6, us2, ecs, htv2⟩ := htv
          have hcs' := fun j u hu => (HBE.out.cell (show (ad.add j).block < w.heap.size by rw [block_of_add]; exact hab)).trans (hcs j u hu)
          obtain ⟨x0, x1, x2, x3, x4⟩ := cells5 hcs' ecs
          have htv3 : TV encJ w S h0 kk (jcells h0 (.slice A5 kk.len c5) (.slice A6 h0.keys.length c6)) := ⟨A5, c5, A6, c6, us2, rfl, htv2⟩
          obtain ⟨y1, y2⟩ := riseF_at HRI.out.2 he
          have HCL := Lib.hid (HC.out kk.sz (by have := HK.out; omega) h0 kk (.slice A5 kk.len c5) (.slice A6 h0.keys.length c6) S wr (Nat.le_refl _) y1 y2 (htv3.kept fun p hp => HBE.out.cell (HS.out _ hp)) (fun b h => by have := HS.out b h; have := HBE.out.size; omega))
          clear he hsz htv2 htv3 ecs hcs hcs' hab y1 y2
          go_wp2_with fail
          refine HCL.out.mono ?_
          rintro x w4 ⟨rfl, hb4⟩
          have HB4 : Hid (Below wz.heap.size wz w4) := Lib.hid (HB.out.trans (hb4.mono HB.out.size))
          clear hb4 HCL x0 x1 x2 x3 x4 d3
          go_wp2_with fail
          go_roundw
          case rel => exact ⟨q + 1, by omega, by go_num, HB4⟩
          case measure => simp [intOf]; omega
        · have hqn : q = ni := by omega
          subst hqn
          go_wp2
          go_ret
          exact ⟨rfl, HBE.out⟩
theorem risesW_any (n : Nat) : RiseC n := by
  induction n using Nat.strongRecOn with
  | ind n ih => exact rise_step n ih
end Js
end Go.Proofs.YtlfeddgpfaigkaaGreatDoor
