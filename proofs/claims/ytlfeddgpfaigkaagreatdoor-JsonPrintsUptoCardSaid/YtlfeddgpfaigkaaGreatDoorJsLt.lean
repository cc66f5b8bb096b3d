/-
  The walks of stratakit's LentJson and LentJsons at this seat: a value all of whose lists are lent, with marks in their spare room.
  The walk of stratakit's LentJson at this seat.
  The walks of stratakit's KeptJson and KeptJsons at this seat: a lent value is as it was, its marks too.
-/
import Derived.Test.YtlfeddgpfaigkaaGreatDoorJsRr
import Derived.Test.YtlfeddgpfaigkaaGreatDoorLnt
import Derived.Laws.CopyOwn
namespace Go.Proofs.YtlfeddgpfaigkaaGreatDoor
open Go.RowKit
namespace Js
/-- A mark behind a list of values. -/
def mk5 : List Value := [.int .i64 (-7), .int .i64 0, .string ⟨#[]⟩, .slice none 0 0, .slice none 0 0]
def mks : Nat → List Value
  | 0 => []
  | n + 1 => mks n ++ mk5
theorem mks_len (n : Nat) : (mks n).length = n * 5 := by
  induction n with
  | zero => rfl
  | succ n ih => rw [mks, List.length_append, ih, Nat.succ_mul]; rfl
theorem mks_one (n : Nat) : ∀ u ∈ mks n, u.oneCell' = true := by
  induction n with
  | zero => intro u h; cases h
  | succ n ih =>
    intro u h
    rcases List.mem_append.1 h with h | h
    · exact ih u h
    · simp [mk5] at h; rcases h with rfl | rfl | rfl | rfl | rfl <;> rfl
theorem mks_at : ∀ {n i : Nat}, i < n → (mks n)[i * 5]? = some (.int .i64 (-7))
  | n + 1, i, h => by
    rw [mks]
    rcases Nat.lt_or_ge i n with h1 | h1
    · rw [List.getElem?_append_left (by rw [mks_len]; omega)]; exact mks_at h1
    · obtain rfl : i = n := by omega
      rw [List.getElem?_append_right (by rw [mks_len]; omega), mks_len, Nat.sub_self]; rfl
/-- Values whose lists are lent: sixteen marks behind each. -/
def LT (w : World) (S : Nat → Prop) : F → List Value → Prop
  | .nil, vs => vs = []
  | .cons h k r, vs => ∃ g c g' c' us rest, vs = jcells h (.slice (some ⟨g, 0, none⟩) k.len c) (.slice (some ⟨g', 0, none⟩) h.keys.length c') ++ rest ∧ (k.len ≤ 4398046511104 ∧ h.keys.length ≤ 4398046511104 ∧ k.len + 16 ≤ c ∧ h.keys.length + 16 ≤ c') ∧
      RdS w S 5 (some ⟨g, 0, none⟩) (k.len + 16) (us ++ mks 16) ∧ LT w S k us ∧ RdS w S 1 (some ⟨g', 0, none⟩) (h.keys.length + 16) (tx (h.keys ++ lmk 16)) ∧ LT w S r rest
def LV (w : World) (S : Nat → Prop) (h : Hd) (k : F) (cs : List Value) : Prop :=
  ∃ g c g' c' us, cs = jcells h (.slice (some ⟨g, 0, none⟩) k.len c) (.slice (some ⟨g', 0, none⟩) h.keys.length c') ∧ (k.len ≤ 4398046511104 ∧ h.keys.length ≤ 4398046511104 ∧ k.len + 16 ≤ c ∧ h.keys.length + 16 ≤ c') ∧
      RdS w S 5 (some ⟨g, 0, none⟩) (k.len + 16) (us ++ mks 16) ∧ LT w S k us ∧ RdS w S 1 (some ⟨g', 0, none⟩) (h.keys.length + 16) (tx (h.keys ++ lmk 16))
theorem rds_pre {w : World} {S : Nat → Prop} {size n m : Nat} {A : Option Addr} {xs ys : List Value} (h : RdS w S size A (n + m) (xs ++ ys)) (hx : xs.length = n * size) : RdS w S size A n xs :=
  ⟨hx, fun hn => by
    obtain ⟨ad, e, hb, hc⟩ := h.2 (by omega)
    refine ⟨ad, e, hb, fun j u hu => hc j u ?_⟩
    have hj : j < xs.length := by
      rcases Nat.lt_or_ge j xs.length with h1 | h1
      · exact h1
      · rw [List.getElem?_eq_none h1] at hu; cases hu
    rw [List.getElem?_append_left hj]; exact hu⟩
section
variable {w w' : World} {S S' : Nat → Prop} {f g : F} {vs vs' : List Value} {h : Hd} {k : F} {cs : List Value}
theorem LT.len (h : LT w S f vs) : vs.length = f.len * 5 := by
  induction f generalizing vs with
  | nil => simp [LT] at h; subst h; simp [F.len]
  | cons h0 k r _ ih =>
    obtain ⟨_, _, _, _, us, rest, rfl, _, _, _, _, hr⟩ := h
    rw [List.length_append, ih hr, F.len, Nat.succ_mul]; simp [jcells]; omega
theorem LT.one (h : LT w S f vs) : ∀ x ∈ vs, x.oneCell' = true := by
  induction f generalizing vs with
  | nil => simp [LT] at h; subst h; simp
  | cons h0 k r _ ih =>
    obtain ⟨_, _, _, _, us, rest, rfl, _, _, _, _, hr⟩ := h
    intro x hx
    rcases List.mem_append.1 hx with h1 | h1
    · exact encJ.one _ _ _ _ _ _ _ x h1
    · exact ih hr x h1
theorem LT.kept (h : LT w S f vs) (hk : ∀ p : Addr, S p.block → w'.cell? p = w.cell? p) : LT w' S f vs := by
  induction f generalizing vs with
  | nil => exact h
  | cons h0 k r ih1 ih2 =>
    obtain ⟨g, c, g', c', us, rest, e, b1, h1, h2, h3, hr⟩ := h
    exact ⟨g, c, g', c', us, rest, e, b1, h1.kept hk, ih1 h2, h3.kept hk, ih2 hr⟩
theorem LT.more (h : LT w S f vs) (hS : ∀ b, S b → S' b) : LT w S' f vs := by
  induction f generalizing vs with
  | nil => exact h
  | cons h0 k r ih1 ih2 =>
    obtain ⟨g, c, g', c', us, rest, e, b1, h1, h2, h3, hr⟩ := h
    exact ⟨g, c, g', c', us, rest, e, b1, h1.more hS, ih1 h2, h3.more hS, ih2 hr⟩
theorem LT.app (h : LT w S f vs) (h' : LT w S g vs') : LT w S (f.app g) (vs ++ vs') := by
  induction f generalizing vs with
  | nil => simp [LT] at h; subst h; simpa [F.app] using h'
  | cons h0 k r _ ih =>
    obtain ⟨g, c, g', c', us, rest, rfl, b1, h1, h2, h3, hr⟩ := h
    exact ⟨g, c, g', c', us, rest ++ vs', by rw [List.append_assoc], b1, h1, h2, h3, ih hr⟩
theorem LT.tr (h : LT w S f vs) : TR encJ w S f vs := by
  induction f generalizing vs with
  | nil => exact h
  | cons h0 k r ih1 ih2 =>
    obtain ⟨g, c, g', c', us, rest, rfl, b1, h1, h2, h3, hr⟩ := h
    refine ⟨some ⟨g, 0, none⟩, c, some ⟨g', 0, none⟩, c', us, rest, rfl, b1.1, ⟨b1.2.1, fun e => by cases e⟩, rds_pre h1 h2.len, ih1 h2, rds_pre (m := 16) (ys := tx (lmk 16)) (by rw [← tx_append]; exact h3) (by rw [tx_length, Nat.mul_one]), ih2 hr⟩
theorem LV.lt (h0 : LV w S h k cs) : LT w S (.cons h k .nil) cs := by
  obtain ⟨g, c, g', c', us, e, b1, h1, h2, h3⟩ := h0
  exact ⟨g, c, g', c', us, [], by rw [e, List.append_nil], b1, h1, h2, h3, rfl⟩
theorem LV.kept (hv : LV w S h k cs) (hk : ∀ p : Addr, S p.block → w'.cell? p = w.cell? p) : LV w' S h k cs := by
  obtain ⟨g, c, g', c', us, e, b1, h1, h2, h3⟩ := hv
  exact ⟨g, c, g', c', us, e, b1, h1.kept hk, h2.kept hk, h3.kept hk⟩
theorem LV.more (hv : LV w S h k cs) (hS : ∀ b, S b → S' b) : LV w S' h k cs := by
  obtain ⟨g, c, g', c', us, e, b1, h1, h2, h3⟩ := hv
  exact ⟨g, c, g', c', us, e, b1, h1.more hS, h2.more hS, h3.more hS⟩
theorem LV.tv (hv : LV w S h k cs) : TV encJ w S h k cs := hv.lt.tr.tv
theorem LT.at_ (h : LT w S f vs) {i : Nat} (hi : i < f.len) : ∃ h0 k, (toL f)[i]? = some (h0, k) ∧ k.sz < f.sz ∧ LV w S h0 k ((vs.drop (i * 5)).take 5) := by
  induction f generalizing vs i with
  | nil => simp [F.len] at hi
  | cons h0 k r _ ih =>
    obtain ⟨g, c, g', c', us, rest, rfl, b1, h1, h2, h3, hr⟩ := h
    cases i with
    | zero => exact ⟨h0, k, rfl, by simp [F.sz]; omega, g, c, g', c', us, rfl, b1, h1, h2, h3⟩
    | succ i =>
      obtain ⟨h4, k4, e, hs, hv⟩ := ih hr (by simp [F.len] at hi; omega : i < r.len)
      refine ⟨h4, k4, by simpa [toL] using e, by simp [F.sz]; omega, ?_⟩
      rw [show (i + 1) * 5 = i * 5 + 5 by omega]
      exact hv
end
/-- What a call has made. -/
def Fresh (w w' : World) (b : Nat) : Prop := w.heap.size ≤ b ∧ b < w'.heap.size
theorem lentTextsO_any (A : Option Addr) (n c : Nat) (l : List (List UInt8)) (w : World) (hr : Reads w w.heap.size 1 A n (tx l)) (hn : n ≤ 4398046511104) :
    Calls Tryz.prog 35 #[.slice A n c] w fun e w' => ∃ g c', e = .returned (.slice (some ⟨g, 0, none⟩) n c') ∧ n + 16 ≤ c' ∧ RdS w' (Fresh w w') 1 (some ⟨g, 0, none⟩) (n + 16) (tx (l ++ lmk 16)) ∧ Below w.heap.size w w' := by
  have HF := Lib.hid (fullTexts_any A n c l w hr hn)
  clear hr
  go_enter Tryz.func35, Tryz.ntmps35
  go_wp2_with fail
  refine HF.out.mono ?_
  rintro e w1 ⟨v, rfl, ho, hb⟩
  obtain ⟨g, cap, rfl, hcp⟩ : ∃ g cap, v = .slice (some ⟨g, 0, none⟩) (n + 16) cap ∧ n + 16 ≤ cap := by
    rcases ho.2 with ⟨_, h⟩ | ⟨g, cap, cur, rfl, _, _, h, _⟩
    · omega
    · exact ⟨g, cap, rfl, h⟩
  have HB := Lib.hid hb
  have HR : Hid (RdS w1 (Fresh w w1) 1 (some ⟨g, 0, none⟩) (n + 16) (tx (l ++ lmk 16))) := Lib.hid (by
    obtain ⟨A', c', e', h1⟩ := RdS.of_own ho
    cases e'
    exact h1.more fun b hb => own_lt ho hb)
  clear ho hb
  go_wp2
  go_ret
  exact ⟨g, _, rfl, by omega, HR.out, HB.out⟩
/-- A list that is being lent: its values, so far. -/
def LL (w : World) (B : Nat) (v : Value) (f : F) (m : Nat) : Prop := ∃ (S : Nat → Prop) (vs : List Value), w.ownsRow B 25 5 v (f.len + m) (vs ++ mks m) ∧ LT w S f vs ∧ ∀ b, S b → B ≤ b ∧ b < w.heap.size ∧ v.ownBlock ≠ some b
theorem LL.nil (w : World) (B : Nat) : LL w B (.slice none 0 0) .nil 0 := ⟨fun _ => False, [], World.ownsRow_nil _ _ _ _, rfl, fun _ h => h.elim⟩
section
variable {w w' : World} {B : Nat} {v v' : Value} {f : F} {m : Nat}
theorem LL.below (h : LL w B v f m) (hb : Below w.heap.size w w') : LL w' B v f m := by
  obtain ⟨S, vs, ho, ht, hS⟩ := h
  exact ⟨S, vs, own_kept ho hb, ht.kept fun p hp => hb.cell (hS _ hp).2.1, fun b h => ⟨(hS b h).1, by have := (hS b h).2.1; have := hb.size; omega, (hS b h).2.2⟩⟩
theorem LL.form (h : LL w B v f m) : ∃ A c, v = .slice A (f.len + m) c := by
  obtain ⟨S, vs, ho, _⟩ := h
  obtain ⟨A, c, h, _⟩ := own_readsN ho
  exact ⟨A, c, h⟩
theorem LL.own (h : LL w B v f m) {b : Nat} (hb : v.ownBlock = some b) : B ≤ b ∧ b < w.heap.size := by
  obtain ⟨S, vs, ho, _⟩ := h
  exact own_lt ho hb
/-- A value laid behind. -/
theorem LL.push {S2 : Nat → Prop} {h : Hd} {k : F} {xs news : List Value} {S : Nat → Prop} (ht : LT w S f xs) (hS : ∀ b, S b → B ≤ b ∧ b < w.heap.size ∧ v.ownBlock ≠ some b) (h2 : LV w S2 h k news) (hS2 : ∀ b, S2 b → B ≤ b ∧ b < w.heap.size ∧ v.ownBlock ≠ some b)
    (ho : w'.ownsRow B 25 5 v' (f.len + 1) (xs ++ news)) (hg : w.grownBy w' v.ownBlock) (hl : v'.ownBlock = v.ownBlock ∨ v'.ownBlock = some w.heap.size) : LL w' B v' (f.app (.cons h k .nil)) 0 := by
  have hU : ∀ b, (S b ∨ S2 b) → B ≤ b ∧ b < w.heap.size ∧ v.ownBlock ≠ some b := fun b hb => hb.elim (hS b) (hS2 b)
  refine ⟨fun b => S b ∨ S2 b, xs ++ news, by rw [F.len_app]; simpa [mks, F.len] using ho, ((ht.more fun b h => .inl h).app ((LV.lt h2).more fun b h => .inr h)).kept fun p hp => ?_, fun b hb => ?_⟩
  · obtain ⟨_, h2, h3⟩ := hU _ hp
    exact World.cell?_of_block (hg.block _ h2 (fun e => h3 e.symm))
  · obtain ⟨h1, h2, h3⟩ := hU _ hb
    refine ⟨h1, by have := hg.size; omega, fun e => ?_⟩
    rcases hl with h | h
    · exact h3 (h.symm.trans e)
    · rw [h] at e; cases e; omega
/-- A mark laid behind. -/
theorem LL.mark {xs : List Value} {S : Nat → Prop} (ht : LT w S f xs) (hS : ∀ b, S b → B ≤ b ∧ b < w.heap.size ∧ v.ownBlock ≠ some b)
    (ho : w'.ownsRow B 25 5 v' (f.len + m + 1) (xs ++ mks m ++ mk5)) (hg : w.grownBy w' v.ownBlock) (hl : v'.ownBlock = v.ownBlock ∨ v'.ownBlock = some w.heap.size) : LL w' B v' f (m + 1) := by
  refine ⟨S, xs, by rw [mks, ← List.append_assoc]; exact ho, ht.kept fun p hp => ?_, fun b hb => ?_⟩
  · obtain ⟨_, h2, h3⟩ := hS _ hp
    exact World.cell?_of_block (hg.block _ h2 (fun e => h3 e.symm))
  · obtain ⟨h1, h2, h3⟩ := hS _ hb
    refine ⟨h1, by have := hg.size; omega, fun e => ?_⟩
    rcases hl with h | h
    · exact h3 (h.symm.trans e)
    · rw [h] at e; cases e; omega
end
def LentP (h : Hd) (k : F) (w : World) (x : Ending) (w' : World) : Prop :=
  ∃ g c g' c', x = .returned (.agg #[.int .i64 h.kind, .int .i64 h.num, .string ⟨h.text.toArray⟩, .slice (some ⟨g, 0, none⟩) k.len c, .slice (some ⟨g', 0, none⟩) h.keys.length c']) ∧ LV w' (Fresh w w') h k (jcells h (.slice (some ⟨g, 0, none⟩) k.len c) (.slice (some ⟨g', 0, none⟩) h.keys.length c')) ∧ Below w.heap.size w w'
def LentC (n : Nat) : Prop := ∀ (h : Hd) (k : F) (iv kv : Value) (S : Nat → Prop) (w : World), k.sz ≤ n → TV encJ w S h k (jcells h iv kv) → (∀ b, S b → b < w.heap.size) →
  Calls Tryz.prog 11 #[.agg #[.int .i64 h.kind, .int .i64 h.num, .string ⟨h.text.toArray⟩, iv, kv]] w (LentP h k w)
def LentsP (f : F) (w : World) (x : Ending) (w' : World) : Prop :=
  ∃ g c vs, x = .returned (.slice (some ⟨g, 0, none⟩) f.len c) ∧ f.len + 16 ≤ c ∧ RdS w' (Fresh w w') 5 (some ⟨g, 0, none⟩) (f.len + 16) (vs ++ mks 16) ∧ LT w' (Fresh w w') f vs ∧ Below w.heap.size w w'
def LentsC (n : Nat) : Prop := ∀ (f : F) (us : List Value) (A : Option Addr) (c : Nat) (S : Nat → Prop) (w : World), f.sz ≤ n → RdS w S 5 A f.len us → TR encJ w S f us → (∀ b, S b → b < w.heap.size) →
  Calls Tryz.prog 34 #[.slice A f.len c] w (LentsP f w)
set_option maxHeartbeats 3200000 in
set_option maxRecDepth 100000 in
theorem lents_step (n : Nat) (hn : n ≤ 1099511627776) (hC : ∀ m, m < n → LentC m) : LentsC n := by
  intro f us A c S w hk hr htr hS
  obtain ⟨i0, hi0, hz0, hz1, hz2⟩ := info_parts infoJson
  have HC := Lib.hid hC
  have HK := Lib.hid hk
  have HS := Lib.hid hS
  have HTR := Lib.hid htr
  have HR := Lib.hid (hr.reads hS)
  have HN : Hid (f.len ≤ 1099511627776) := Lib.hid (Nat.le_trans f.len_sz (Nat.le_trans hk hn))
  obtain ⟨L, hL⟩ : ∃ L, L = f.len := ⟨_, rfl⟩
  have HL := Lib.hid hL
  rw [← hL] at HR HN ⊢
  clear hC hk hS htr hr hL
  have hln := HN.out
  go_enter Tryz.func34, Tryz.ntmps34
  go_wp2_with fail
  go_loopw [3, 4] (fun v i wr => ∃ j : Nat, j ≤ L ∧ i = .int .i64 j ∧ Hid (LL wr w.heap.size v (f.take j) 0) ∧ Hid (Below w.heap.size w wr)) (fun _ i _ => L - (intOf i).toNat)
  case atStart => exact ⟨0, by omega, rfl, Lib.hid (by simpa [F.take] using LL.nil _ _), Lib.hid (Below.refl _ _)⟩
  case round =>
    obtain ⟨j, hj, rfl, HO, HB⟩ := hrel
    obtain ⟨A5, c5, hv5⟩ := HO.out.form
    have HTL : Hid ((f.take j).len = j) := Lib.hid (F.take_len (by rw [← HL.out]; exact hj))
    rw [HTL.out, Nat.add_zero] at hv5
    subst hv5
    by_cases hlt : j < L
    · obtain ⟨ad, rfl, hab, hcs⟩ := HR.out.2 (by omega)
      obtain ⟨h0, kk, he, hsz, htv⟩ := HTR.out.at_ (i := j) (by have := HL.out; omega)
      obtain ⟨A6, c6, A7, c7, us2, ecs, htv2⟩ := htv
      have hcs' := fun j u hu => (HB.out.cell (show (ad.add j).block < w.heap.size by rw [block_of_add]; exact hab)).trans (hcs j u hu)
      obtain ⟨x0, x1, x2, x3, x4⟩ := cells5 hcs' ecs
      have htv3 : TV encJ w S h0 kk (jcells h0 (.slice A6 kk.len c6) (.slice A7 h0.keys.length c7)) := ⟨A6, c6, A7, c7, us2, rfl, htv2⟩
      have HCL := Lib.hid (HC.out kk.sz (by have := HK.out; omega) h0 kk (.slice A6 kk.len c6) (.slice A7 h0.keys.length c7) S wr (Nat.le_refl _) (htv3.kept fun p hp => HB.out.cell (HS.out _ hp)) (fun b h => by have := HS.out b h; have := HB.out.size; omega))
      have HTK : Hid (f.take (j + 1) = (f.take j).app (.cons h0 kk .nil)) := Lib.hid (F.take_succ he)
      clear he hsz htv2 htv3 ecs hcs hcs' hab
      go_wp2_with fail
      refine HCL.out.mono ?_
      rintro x w1 ⟨g, q, g', q', rfl, hlv, hb1⟩
      have HO1 := Lib.hid (HO.out.below hb1)
      have HB1 : Hid (Below w.heap.size w w1) := Lib.hid (HB.out.trans (hb1.mono HB.out.size))
      have HLV := Lib.hid hlv
      have HSZ : Hid (w.heap.size ≤ wr.heap.size ∧ wr.heap.size ≤ w1.heap.size ∧ ∀ b, Value.ownBlock (.slice A5 j c5) = some b → b < wr.heap.size) := Lib.hid ⟨HB.out.size, hb1.size, fun b hb => (HO.out.own hb).2⟩
      clear hlv hb1 HCL x0 x1 x2 x3 x4 HO HB
      go_upto_region 6 with (refine wpList_store_row rfl 25 _ _ rfl _ _ rfl rfl 25 _ (heap_alloc_new _ _) (by kernel_rfl) rfl rfl ?_)
      obtain ⟨w2, hw2⟩ : ∃ w2, w2 = w1.alloc (.cells #[.int .i64 h0.kind, .int .i64 h0.num, .string ⟨h0.text.toArray⟩, .slice (some ⟨g, 0, none⟩) kk.len q, .slice (some ⟨g', 0, none⟩) h0.keys.length q'] 25) := ⟨_, rfl⟩
      have hb2 : Below w1.heap.size w1 w2 := by rw [hw2]; exact (Below.refl _ _).alloc (Nat.le_refl _) _
      have HN2 : Hid (Blk w2 w1.heap.size 25 #[.int .i64 h0.kind, .int .i64 h0.num, .string ⟨h0.text.toArray⟩, .slice (some ⟨g, 0, none⟩) kk.len q, .slice (some ⟨g', 0, none⟩) h0.keys.length q']) := Lib.hid (by rw [hw2]; exact Blk.new _ _ _)
      have HO2 := Lib.hid (HO1.out.below hb2)
      have HLV2 := Lib.hid (HLV.out.kept (w' := w2) fun p hp => hb2.cell hp.2)
      have HB2 : Hid (Below w.heap.size w w2) := Lib.hid (HB1.out.trans (hb2.mono HB1.out.size))
      have HS2 : Hid (w1.heap.size ≤ w2.heap.size) := Lib.hid hb2.size
      rw [← hw2]
      clear hw2 hb2 HO1 HB1 HLV
      have y0 := HN2.out.cell 0
      have y1 := HN2.out.cell 1
      have y2 := HN2.out.cell 2
      have y3 := HN2.out.cell 3
      have y4 := HN2.out.cell 4
      have HNEW : Hid (∃ (S : Nat → Prop) (xs : List Value), w2.ownsRow w.heap.size 25 5 (.slice A5 j c5) j xs ∧ LT w2 S (f.take j) xs ∧ ∀ b, S b → w.heap.size ≤ b ∧ b < w2.heap.size ∧ Value.ownBlock (.slice A5 j c5) ≠ some b) := Lib.hid (by
        obtain ⟨S, xs, ho, ht, hS⟩ := HO2.out
        rw [HTL.out] at ho
        simp only [Nat.add_zero, mks, List.append_nil] at ho
        exact ⟨S, xs, ho, ht, hS⟩)
      obtain ⟨S6, xs, ho6, ht6, hS6⟩ := HNEW.out
      have HO6 := Lib.hid ho6
      have HT6 := Lib.hid ht6
      have HS6 := Lib.hid hS6
      clear ho6 ht6 hS6 HNEW
      go_wp2_with (at_builtin; go_loud (refine wpList_append_any _ rfl _ _ 22 rfl w.heap.size 25 i0 _ 5 80 Tryz.underlying22 hi0 hz0 hz1 hz2 rfl (by decide) (.slice A5 j c5) j xs rfl (World.ownsRow.alloc HO6.out _) (w2.heap.size + 1) (some ⟨w2.heap.size, 0, none⟩) 1 1 (jcells h0 (.slice (some ⟨g, 0, none⟩) kk.len q) (.slice (some ⟨g', 0, none⟩) h0.keys.length q')) rfl ((Reads.of_block (heap_alloc_new _ _) rfl).more (by simp)) (encJ.one _ _ _ _ _ _ _) (by unfold maxLen; omega) (by omega) (by have := HB2.out.size; simp; omega) ?_; intro v7 w7 h1 h2 h3))
      have HL7 : Hid (LL w7 w.heap.size v7 (f.take (j + 1)) 0) := Lib.hid (by
        rw [HTK.out]
        refine LL.push (w := w2.alloc (.cells #[.int .i64 h0.kind, .int .i64 h0.num, .string ⟨h0.text.toArray⟩, .slice (some ⟨g, 0, none⟩) kk.len q, .slice (some ⟨g', 0, none⟩) h0.keys.length q'] 25)) (v := .slice A5 j c5) (HT6.out.kept fun p hp => World.cell?_alloc_lt _ _ _ (HS6.out _ hp).2.1) (fun b hb => ⟨(HS6.out b hb).1, by have := (HS6.out b hb).2.1; simp; omega, (HS6.out b hb).2.2⟩) (HLV2.out.kept fun p hp => World.cell?_alloc_lt _ _ _ (by have := hp.2; have := HS2.out; omega)) (fun b hb => ⟨by have := hb.1; have := HSZ.out.1; omega, by have := hb.2; have := HS2.out; simp; omega, fun e => by have := HSZ.out.2.2 b e; have := hb.1; omega⟩) (by rw [HTL.out]; exact h1) h2 h3)
      have HB7 : Hid (Below w.heap.size w w7) := Lib.hid (Below.grown (HB2.out.alloc HB2.out.size _) h2 (by have := HB2.out.size; simp; omega) (fun b hb => (own_lt HO6.out hb).1))
      clear h1 h2 h3 y0 y1 y2 y3 y4
      go_roundw
      case rel => exact ⟨j + 1, by omega, by go_num, HL7, HB7⟩
      case measure => simp [intOf]; omega
    · obtain rfl : L = j := by omega
      obtain ⟨w0, hw0⟩ : ∃ w0, w0 = wr := ⟨_, rfl⟩
      subst hw0
      have HOA : Hid (LL w0 w.heap.size (.slice A5 L c5) f 0) := Lib.hid (by have := HO.out; rwa [HL.out, F.take_all, ← HL.out] at this)
      clear HO
      go_wp2_with fail
      go_loopw [3, 6] (fun v i wr => ∃ m : Nat, m ≤ 16 ∧ i = .int .i64 m ∧ Hid (LL wr w.heap.size v f m) ∧ Hid (Below w.heap.size w wr)) (fun _ i _ => 16 - (intOf i).toNat)
      case atStart => exact ⟨0, by omega, rfl, HOA, HB⟩
      case round =>
        clear HOA HB
        obtain ⟨m, hm, rfl, HO, HB⟩ := hrel
        obtain ⟨A6, c6, hv6⟩ := HO.out.form
        rw [← HL.out] at hv6
        subst hv6
        by_cases hlt2 : m < 16
        · obtain ⟨S6, xs, ho6, ht6, hS6⟩ := HO.out
          rw [← HL.out] at ho6
          have HO6 := Lib.hid ho6
          have HT6 := Lib.hid ht6
          have HS6 := Lib.hid hS6
          clear ho6 ht6 hS6
          go_wp2_with (at_builtin; go_loud (refine wpList_append_any _ rfl _ _ 22 rfl w.heap.size 25 i0 _ 5 80 Tryz.underlying22 hi0 hz0 hz1 hz2 rfl (by decide) (.slice A6 (L + m : Nat) c6) (L + m) (xs ++ mks m) rfl (World.ownsRow.alloc HO6.out _) (wr.heap.size + 1) (some ⟨wr.heap.size, 0, none⟩) 1 1 mk5 rfl ((Reads.of_block (heap_alloc_new _ _) rfl).more (by simp)) (mks_one 1) (by unfold maxLen; omega) (by omega) (by have := HB.out.size; simp; omega) ?_; intro v7 w7 h1 h2 h3))
          have HL7 : Hid (LL w7 w.heap.size v7 f (m + 1)) := Lib.hid (by
            refine LL.mark (w := wr.alloc (.cells mk5.toArray 25)) (v := .slice A6 (L + m : Nat) c6) (HT6.out.kept fun p hp => World.cell?_alloc_lt _ _ _ (HS6.out _ hp).2.1) (fun b hb => ⟨(HS6.out b hb).1, by have := (HS6.out b hb).2.1; simp; omega, (HS6.out b hb).2.2⟩) (by rw [← HL.out]; exact h1) h2 h3)
          have HB7 : Hid (Below w.heap.size w w7) := Lib.hid (Below.grown (HB.out.alloc HB.out.size _) h2 (by have := HB.out.size; simp; omega) (fun b hb => (own_lt HO6.out hb).1))
          clear h1 h2 h3
          go_roundw
          case rel => exact ⟨m + 1, by omega, by go_num, HL7, HB7⟩
          case measure => simp [intOf]; omega
        · obtain rfl : m = 16 := by omega
          have HE : Hid (LentsP f w (.returned (.slice A6 L c6)) wr ∧ L + 16 ≤ c6) := Lib.hid (by
            obtain ⟨S6, xs, ho6, ht6, hS6⟩ := HO.out
            obtain ⟨g, rfl, hcap⟩ : ∃ g, A6 = some ⟨g, 0, none⟩ ∧ f.len + 16 ≤ c6 := by
              rcases ho6.2 with ⟨_, h⟩ | ⟨g, cap, cur, h, _, _, h2, _⟩
              · omega
              · cases h; exact ⟨g, rfl, h2⟩
            obtain ⟨A', c', e', h1⟩ := RdS.of_own ho6
            cases e'
            rw [HL.out]
            exact ⟨⟨g, c6, xs, rfl, hcap, h1.more fun b hb => own_lt ho6 hb, ht6.more fun b hb => ⟨(hS6 b hb).1, (hS6 b hb).2.1⟩, HB.out⟩, hcap⟩)
          have hcap := HE.out.2
          go_wp2
          go_ret
          exact HE.out.1
end Js
end Go.Proofs.YtlfeddgpfaigkaaGreatDoor
namespace Go.Proofs.YtlfeddgpfaigkaaGreatDoor
open Go.RowKit
namespace Js
set_option maxHeartbeats 3200000 in
set_option maxRecDepth 100000 in
theorem lent_step (n : Nat) (hLS : LentsC n) : LentC n := by
  intro h k iv kv S w hk htv hS
  obtain ⟨A1, c1, A2, c2, us, rfl, rfl, hlk, hlq, hr1, htr, hr2⟩ := tv_parts htv
  clear htv
  obtain ⟨L, hL⟩ : ∃ L, L = k.len := ⟨_, rfl⟩
  obtain ⟨nk, hnk⟩ : ∃ nk, nk = h.keys.length := ⟨_, rfl⟩
  obtain ⟨b0, hb0⟩ : ∃ b0, b0 = w.heap.size := ⟨_, rfl⟩
  obtain ⟨wc, hwc⟩ : ∃ wc, wc = ((w.alloc (.cells #[.int .i64 h.kind, .int .i64 h.num, .string ⟨h.text.toArray⟩, .slice A1 L c1, .slice A2 nk c2] 25)).alloc (.cells #[.int .i64 0, .int .i64 0, .string ⟨#[]⟩, .slice none 0 0, .slice none 0 0] 25)).alloc (.cells #[.int .i64 h.kind, .int .i64 h.num, .string ⟨h.text.toArray⟩, .slice A1 L c1, .slice A2 nk c2] 25) := ⟨_, rfl⟩
  have HB0 : Hid (Blk wc b0 25 #[.int .i64 h.kind, .int .i64 h.num, .string ⟨h.text.toArray⟩, .slice A1 L c1, .slice A2 nk c2]) := Lib.hid (by rw [hwc, hb0]; exact Blk.alloc (Blk.alloc (Blk.new _ _ _) _) _)
  have HB1 : Hid (Blk wc (b0 + 1) 25 #[.int .i64 0, .int .i64 0, .string ⟨#[]⟩, .slice none 0 0, .slice none 0 0]) := Lib.hid (by
    have := Blk.new (w.alloc (.cells #[.int .i64 h.kind, .int .i64 h.num, .string ⟨h.text.toArray⟩, .slice A1 L c1, .slice A2 nk c2] 25)) 25 #[.int .i64 0, .int .i64 0, .string ⟨#[]⟩, .slice none 0 0, .slice none 0 0]
    rw [World.size_alloc] at this
    rw [hwc, hb0]; exact Blk.alloc this _)
  have HB2 : Hid (Blk wc (b0 + 1 + 1) 25 #[.int .i64 h.kind, .int .i64 h.num, .string ⟨h.text.toArray⟩, .slice A1 L c1, .slice A2 nk c2]) := Lib.hid (by
    have := Blk.new ((w.alloc (.cells #[.int .i64 h.kind, .int .i64 h.num, .string ⟨h.text.toArray⟩, .slice A1 L c1, .slice A2 nk c2] 25)).alloc (.cells #[.int .i64 0, .int .i64 0, .string ⟨#[]⟩, .slice none 0 0, .slice none 0 0] 25)) 25 #[.int .i64 h.kind, .int .i64 h.num, .string ⟨h.text.toArray⟩, .slice A1 L c1, .slice A2 nk c2]
    rw [World.size_alloc, World.size_alloc] at this
    rw [hwc, hb0]; exact this)
  have HZ : Hid (Below w.heap.size w wc ∧ wc.heap.size = b0 + 3) := Lib.hid (by rw [hwc, hb0]; exact ⟨(((Below.refl _ _).alloc (Nat.le_refl _) _).alloc (by simp) _).alloc (by simp; omega) _, by simp⟩)
  have HLS : Hid (Calls Tryz.prog 34 #[.slice A1 L c1] wc (LentsP k wc)) := Lib.hid (by
    rw [hL]
    exact hLS k us A1 c1 S wc hk (hr1.kept fun p hp => HZ.out.1.cell (hS _ hp)) (htr.kept fun p hp => HZ.out.1.cell (hS _ hp)) (fun b hb => by have := hS b hb; have := HZ.out.2; omega))
  have HRK : Hid (Reads w w.heap.size 1 A2 nk (tx h.keys)) := Lib.hid (by rw [hnk]; exact hr2.reads hS)
  have HLQ : Hid (L ≤ 4398046511104 ∧ nk ≤ 4398046511104) := Lib.hid (by rw [hL, hnk]; exact ⟨hlk, hlq⟩)
  have HL := Lib.hid hL
  have HNK := Lib.hid hnk
  have HB0W := Lib.hid hb0
  rw [← hL, ← hnk]
  clear hLS hS hr1 htr hr2 hlk hlq hL hnk hk
  go_enter Tryz.func11, Tryz.ntmps11
  go_upto_region 2 with (refine wpList_store_row rfl 25 _ _ rfl _ _ rfl rfl 25 _ (heap_alloc_new _ _) (by kernel_rfl) rfl rfl ?_)
  rw [← hwc, ← hb0]
  clear hwc hb0
  have d3 := HB0.out.cell 3
  go_wp2_with fail
  refine HLS.out.mono ?_
  rintro x w1 ⟨g, q, vs, rfl, hq, hrd, hlt, hb1⟩
  have HB01 := Lib.hid (HB0.out.below hb1 HB0.out.lt)
  have HB11 := Lib.hid (HB1.out.below hb1 HB1.out.lt)
  have HB21 := Lib.hid (HB2.out.below hb1 HB2.out.lt)
  have HBW : Hid (Below w.heap.size w w1 ∧ wc.heap.size ≤ w1.heap.size) := Lib.hid ⟨HZ.out.1.trans (hb1.mono HZ.out.1.size), hb1.size⟩
  have HQ : Hid (L + 16 ≤ q ∧ RdS w1 (Fresh wc w1) 5 (some ⟨g, 0, none⟩) (k.len + 16) (vs ++ mks 16) ∧ LT w1 (Fresh wc w1) k vs) := Lib.hid ⟨by rw [HL.out]; exact hq, hrd, hlt⟩
  rw [← HL.out]
  clear hq hrd hlt hb1 HLS HB0 HB1 HB2 d3
  have f3 := HB21.out.frozen 3
  have d3 := HB21.out.cell 3
  go_upto_region 3 with fail
  obtain ⟨w2, hw2⟩ : ∃ w2, w2 = w1.setCell ⟨b0 + 1 + 1, 3, none⟩ (.slice (some ⟨g, 0, none⟩) L q) := ⟨_, rfl⟩
  have HB02 : Hid (Blk w2 b0 25 #[.int .i64 h.kind, .int .i64 h.num, .string ⟨h.text.toArray⟩, .slice A1 L c1, .slice A2 nk c2]) := Lib.hid (by rw [hw2]; exact HB01.out.far (p := ⟨b0 + 1 + 1, 3, none⟩) (by show b0 ≠ b0 + 1 + 1; omega) _)
  have HB12 : Hid (Blk w2 (b0 + 1) 25 #[.int .i64 0, .int .i64 0, .string ⟨#[]⟩, .slice none 0 0, .slice none 0 0]) := Lib.hid (by rw [hw2]; exact HB11.out.far (p := ⟨b0 + 1 + 1, 3, none⟩) (by show b0 + 1 ≠ b0 + 1 + 1; omega) _)
  have HB22 : Hid (Blk w2 (b0 + 1 + 1) 25 #[.int .i64 h.kind, .int .i64 h.num, .string ⟨h.text.toArray⟩, .slice (some ⟨g, 0, none⟩) L q, .slice A2 nk c2]) := Lib.hid (by rw [hw2]; exact HB21.out.set_ 3 _)
  have HBW2 : Hid (Below w.heap.size w w2 ∧ wc.heap.size ≤ w2.heap.size) := Lib.hid (by rw [hw2]; exact ⟨HBW.out.1.setCell (p := ⟨b0 + 1 + 1, 3, none⟩) (by show w.heap.size ≤ b0 + 1 + 1; have := HB0W.out; omega) _, by simpa using HBW.out.2⟩)
  have HQ2 : Hid (L + 16 ≤ q ∧ RdS w2 (Fresh wc w2) 5 (some ⟨g, 0, none⟩) (k.len + 16) (vs ++ mks 16) ∧ LT w2 (Fresh wc w2) k vs) := Lib.hid (by
    have hf : ∀ b, Fresh wc w1 b → Fresh wc w2 b := fun b hb => ⟨hb.1, by rw [hw2]; simpa using hb.2⟩
    have hc : ∀ p : Addr, Fresh wc w1 p.block → w2.cell? p = w1.cell? p := fun p hp => by
      rw [hw2]
      exact World.cell?_setCell_other w1 _ p _ (fun e => by have h1 := hp.1; rw [← e] at h1; have := HZ.out.2; have h2 : wc.heap.size ≤ b0 + 1 + 1 := h1; omega)
    exact ⟨HQ.out.1, (HQ.out.2.1.kept hc).more hf, (HQ.out.2.2.kept hc).more hf⟩)
  rw [← hw2]
  clear hw2 HB01 HB11 HB21 HBW HQ f3 d3
  have HLK := Lib.hid (lentTextsO_any A2 nk c2 h.keys w2 ((HRK.out.below HBW2.out.1).more HBW2.out.1.size) HLQ.out.2)
  have d4 := HB02.out.cell 4
  go_wp2_with fail
  refine HLK.out.mono ?_
  rintro x w3 ⟨g', q', rfl, hq', hrd', hb3⟩
  have HB13 := Lib.hid (HB12.out.below hb3 HB12.out.lt)
  have HB23 := Lib.hid (HB22.out.below hb3 HB22.out.lt)
  have HBW3 : Hid (Below w.heap.size w w3 ∧ wc.heap.size ≤ w2.heap.size ∧ w2.heap.size ≤ w3.heap.size) := Lib.hid ⟨HBW2.out.1.trans (hb3.mono HBW2.out.1.size), HBW2.out.2, hb3.size⟩
  have HQ3 : Hid (LV w3 (Fresh wc w3) h k (jcells h (.slice (some ⟨g, 0, none⟩) k.len q) (.slice (some ⟨g', 0, none⟩) h.keys.length q'))) := Lib.hid (by
    have hf : ∀ b, Fresh wc w2 b → Fresh wc w3 b := fun b hb => ⟨hb.1, Nat.lt_of_lt_of_le hb.2 hb3.size⟩
    have hc : ∀ p : Addr, Fresh wc w2 p.block → w3.cell? p = w2.cell? p := fun p hp => hb3.cell hp.2
    have h1 := HLQ.out
    rw [HL.out, HNK.out] at h1
    rw [HNK.out] at hrd' hq'
    exact ⟨g, q, g', q', vs, rfl, ⟨h1.1, h1.2, by rw [← HL.out]; exact HQ2.out.1, hq'⟩, (HQ2.out.2.1.kept hc).more hf, (HQ2.out.2.2.kept hc).more hf, hrd'.more fun b hb => ⟨Nat.le_trans HBW2.out.2 hb.1, hb.2⟩⟩)
  clear hq' hrd' hb3 HLK HB02 HB12 HB22 HBW2 HQ2 d4
  have f4 := HB23.out.frozen 4
  have d4 := HB23.out.cell 4
  go_upto_region 4 with fail
  obtain ⟨w4, hw4⟩ : ∃ w4, w4 = w3.setCell ⟨b0 + 1 + 1, 4, none⟩ (.slice (some ⟨g', 0, none⟩) nk q') := ⟨_, rfl⟩
  have HB14 : Hid (Blk w4 (b0 + 1) 25 #[.int .i64 0, .int .i64 0, .string ⟨#[]⟩, .slice none 0 0, .slice none 0 0]) := Lib.hid (by rw [hw4]; exact HB13.out.far (p := ⟨b0 + 1 + 1, 4, none⟩) (by show b0 + 1 ≠ b0 + 1 + 1; omega) _)
  have HB24 : Hid (Blk w4 (b0 + 1 + 1) 25 #[.int .i64 h.kind, .int .i64 h.num, .string ⟨h.text.toArray⟩, .slice (some ⟨g, 0, none⟩) L q, .slice (some ⟨g', 0, none⟩) nk q']) := Lib.hid (by rw [hw4]; exact HB23.out.set_ 4 _)
  have HBW4 : Hid (Below w.heap.size w w4 ∧ w4.heap.size = w3.heap.size) := Lib.hid (by rw [hw4]; exact ⟨HBW3.out.1.setCell (p := ⟨b0 + 1 + 1, 4, none⟩) (by show w.heap.size ≤ b0 + 1 + 1; have := HB0W.out; omega) _, by simp⟩)
  have HC4 : Hid (∀ p : Addr, Fresh wc w3 p.block → w4.cell? p = w3.cell? p) := Lib.hid (fun p hp => by
    rw [hw4]
    exact World.cell?_setCell_other w3 _ p _ (fun e => by have h1 := hp.1; rw [← e] at h1; have := HZ.out.2; have h2 : wc.heap.size ≤ b0 + 1 + 1 := h1; omega))
  rw [← hw4]
  clear hw4 HB13 HB23 f4 d4
  have e0 := HB24.out.cell 0
  have e1 := HB24.out.cell 1
  have e2 := HB24.out.cell 2
  have e3 := HB24.out.cell 3
  have e4 := HB24.out.cell 4
  go_wp2_with (go_loud (refine wpList_store_row rfl 25 _ _ rfl _ _ rfl rfl 25 _ HB14.out (by kernel_rfl) rfl (by simp [Value.oneCell']) ?_))
  refine bodyPost_ret (results_row rfl _ _ (b0 + 1) 25 #[.int .i64 h.kind, .int .i64 h.num, .string ⟨h.text.toArray⟩, .slice (some ⟨g, 0, none⟩) L q, .slice (some ⟨g', 0, none⟩) nk q'] (0, 0) _ rfl (setRow_heap _ _ _ _ _ _ HB14.out) Tryz.underlying25 rfl (by kernel_rfl)) rfl ?_
  rw [HL.out, HNK.out]
  refine ⟨g, q, g', q', rfl, (HQ3.out.kept fun p hp => ?_).more fun b hb => ?_, below_setRow HBW4.out.1 (by have := HB0W.out; omega) _⟩
  · rw [cell_setRow_other _ _ _ _ (by have := hp.1; have := HZ.out.2; omega)]
    exact HC4.out p hp
  · refine ⟨by have := hb.1; have := HZ.out.2; have := HB0W.out; omega, ?_⟩
    rw [setRow_size, HBW4.out.2]
    exact hb.2
end Js
end Go.Proofs.YtlfeddgpfaigkaaGreatDoor
namespace Go.Proofs.YtlfeddgpfaigkaaGreatDoor
open Go.RowKit
namespace Js
theorem lent_any (n : Nat) : n ≤ 1099511627776 → LentC n := by
  induction n using Nat.strongRecOn with
  | ind n ih => exact fun hn => lent_step n (lents_step n hn fun m hm => ih m hm (by omega))
theorem lv_parts {w : World} {S : Nat → Prop} {h : Hd} {k : F} {iv kv : Value} (h0 : LV w S h k (jcells h iv kv)) :
    ∃ g c g' c' us, iv = .slice (some ⟨g, 0, none⟩) k.len c ∧ kv = .slice (some ⟨g', 0, none⟩) h.keys.length c' ∧ (k.len ≤ 4398046511104 ∧ h.keys.length ≤ 4398046511104 ∧ k.len + 16 ≤ c ∧ h.keys.length + 16 ≤ c') ∧
      RdS w S 5 (some ⟨g, 0, none⟩) (k.len + 16) (us ++ mks 16) ∧ LT w S k us ∧ RdS w S 1 (some ⟨g', 0, none⟩) (h.keys.length + 16) (tx (h.keys ++ lmk 16)) := by
  obtain ⟨g, c, g', c', us, e, b, h1, h2, h3⟩ := h0
  simp only [jcells, List.cons.injEq, and_true, true_and] at e
  exact ⟨g, c, g', c', us, e.1, e.2, b, h1, h2, h3⟩
def KeptC (n : Nat) : Prop := ∀ (h : Hd) (k : F) (iv kv iv2 kv2 : Value) (S1 S2 : Nat → Prop) (w : World), k.sz ≤ n → LV w S1 h k (jcells h iv kv) → TV encJ w S2 h k (jcells h iv2 kv2) → (∀ b, S1 b → b < w.heap.size) → (∀ b, S2 b → b < w.heap.size) →
  Calls Tryz.prog 14 #[.agg #[.int .i64 h.kind, .int .i64 h.num, .string ⟨h.text.toArray⟩, iv, kv], .agg #[.int .i64 h.kind, .int .i64 h.num, .string ⟨h.text.toArray⟩, iv2, kv2]] w fun x w' => x = .returned (.bool true) ∧ Below w.heap.size w w'
def KeptsC (n : Nat) : Prop := ∀ (f : F) (ad : Addr) (c : Nat) (vs : List Value) (A : Option Addr) (c2 : Nat) (us : List Value) (S1 S2 : Nat → Prop) (w : World), f.sz ≤ n → f.len ≤ 4398046511104 → f.len + 16 ≤ c → RdS w S1 5 (some ad) (f.len + 16) (vs ++ mks 16) → LT w S1 f vs → RdS w S2 5 A f.len us → TR encJ w S2 f us → (∀ b, S1 b → b < w.heap.size) → (∀ b, S2 b → b < w.heap.size) →
  Calls Tryz.prog 42 #[.slice (some ad) f.len c, .slice A f.len c2] w fun x w' => x = .returned (.bool true) ∧ Below w.heap.size w w'
set_option maxHeartbeats 3200000 in
set_option maxRecDepth 100000 in
theorem kepts_step (n : Nat) (hC : ∀ m, m < n → KeptC m) : KeptsC n := by
  intro f ad c vs A c2 us S1 S2 w hk hlen hcap hr1 hlt1 hr2 htr2 hS1 hS2
  have HC := Lib.hid hC
  have HK := Lib.hid hk
  have HS1 := Lib.hid hS1
  have HS2 := Lib.hid hS2
  have HLT := Lib.hid hlt1
  have HTR := Lib.hid htr2
  have HRP := Lib.hid ((rds_pre hr1 hlt1.len).reads hS1)
  have HR1 := Lib.hid (hr1.reads hS1)
  have HR2 := Lib.hid (hr2.reads hS2)
  obtain ⟨L, hL⟩ : ∃ L, L = f.len := ⟨_, rfl⟩
  have HL := Lib.hid hL
  have HVL : Hid (vs.length = L * 5) := Lib.hid (by rw [hL]; exact hlt1.len)
  rw [← hL] at HR1 HR2 HRP hlen hcap ⊢
  clear hC hk hS1 hS2 hlt1 htr2 hr1 hr2 hL
  go_enter Tryz.func42, Tryz.ntmps42
  go_wp2_with fail
  go_loopw [7] (fun i wr => ∃ j : Nat, j ≤ L ∧ i = .int .i64 j ∧ Hid (Below w.heap.size w wr)) (fun i _ => L - (intOf i).toNat)
  case atStart => exact ⟨0, by omega, rfl, Lib.hid (Below.refl _ _)⟩
  case round =>
    obtain ⟨j, hj, rfl, HB⟩ := hrel
    by_cases hlt : j < L
    · obtain ⟨h0, kk, he, hsz, hlv⟩ := HLT.out.at_ (i := j) (by have := HL.out; omega)
      obtain ⟨h0', kk', he', _, htv⟩ := HTR.out.at_ (i := j) (by have := HL.out; omega)
      obtain ⟨rfl, rfl⟩ : h0 = h0' ∧ kk = kk' := by rw [he] at he'; cases he'; exact ⟨rfl, rfl⟩
      obtain ⟨g, q, g', q', us1, ecs1, hlv2⟩ := hlv
      obtain ⟨A6, c6, A7, c7, us2, ecs2, htv2⟩ := htv
      obtain ⟨ad1, e1, hab1, hcs1⟩ := HRP.out.2 (by omega)
      cases e1
      obtain ⟨ad2, rfl, hab2, hcs2⟩ := HR2.out.2 (by omega)
      have HXX : Hid (∀ wy, Below w.heap.size w wy → (fun wy => wy.cell? (ad.add (j * 5)) = some (.int .i64 h0.kind) ∧ wy.cell? ⟨(ad.add (j * 5)).block, (ad.add (j * 5)).off + 1, none⟩ = some (.int .i64 h0.num) ∧ wy.cell? ⟨(ad.add (j * 5)).block, (ad.add (j * 5)).off + 2, none⟩ = some (.string ⟨h0.text.toArray⟩) ∧ wy.cell? ⟨(ad.add (j * 5)).block, (ad.add (j * 5)).off + 3, none⟩ = some (.slice (some ⟨g, 0, none⟩) kk.len q) ∧ wy.cell? ⟨(ad.add (j * 5)).block, (ad.add (j * 5)).off + 4, none⟩ = some (.slice (some ⟨g', 0, none⟩) h0.keys.length q') ∧ wy.cell? (ad2.add (j * 5)) = some (.int .i64 h0.kind) ∧ wy.cell? ⟨(ad2.add (j * 5)).block, (ad2.add (j * 5)).off + 1, none⟩ = some (.int .i64 h0.num) ∧ wy.cell? ⟨(ad2.add (j * 5)).block, (ad2.add (j * 5)).off + 2, none⟩ = some (.string ⟨h0.text.toArray⟩) ∧ wy.cell? ⟨(ad2.add (j * 5)).block, (ad2.add (j * 5)).off + 3, none⟩ = some (.slice A6 kk.len c6) ∧ wy.cell? ⟨(ad2.add (j * 5)).block, (ad2.add (j * 5)).off + 4, none⟩ = some (.slice A7 h0.keys.length c7)) wy) := Lib.hid (fun wy hb => by
        obtain ⟨x0, x1, x2, x3, x4⟩ := cells5 (fun j u hu => (hb.cell (show (ad.add j).block < w.heap.size by rw [block_of_add]; exact hab1)).trans (hcs1 j u hu)) ecs1
        obtain ⟨y0, y1, y2, y3, y4⟩ := cells5 (fun j u hu => (hb.cell (show (ad2.add j).block < w.heap.size by rw [block_of_add]; exact hab2)).trans (hcs2 j u hu)) ecs2
        exact ⟨x0, x1, x2, x3, x4, y0, y1, y2, y3, y4⟩)
      have hlv3 : LV w S1 h0 kk (jcells h0 (.slice (some ⟨g, 0, none⟩) kk.len q) (.slice (some ⟨g', 0, none⟩) h0.keys.length q')) := ⟨g, q, g', q', us1, rfl, hlv2⟩
      have htv3 : TV encJ w S2 h0 kk (jcells h0 (.slice A6 kk.len c6) (.slice A7 h0.keys.length c7)) := ⟨A6, c6, A7, c7, us2, rfl, htv2⟩
      have HCL : Hid (∀ wy, Below w.heap.size w wy → Calls Tryz.prog 14 #[.agg #[.int .i64 h0.kind, .int .i64 h0.num, .string ⟨h0.text.toArray⟩, .slice (some ⟨g, 0, none⟩) kk.len q, .slice (some ⟨g', 0, none⟩) h0.keys.length q'], .agg #[.int .i64 h0.kind, .int .i64 h0.num, .string ⟨h0.text.toArray⟩, .slice A6 kk.len c6, .slice A7 h0.keys.length c7]] wy fun x w' => x = .returned (.bool true) ∧ Below wy.heap.size wy w') := Lib.hid (fun wy hb =>
        HC.out kk.sz (by have := HK.out; omega) h0 kk _ _ _ _ S1 S2 wy (Nat.le_refl _) (hlv3.kept fun p hp => hb.cell (HS1.out _ hp)) (htv3.kept fun p hp => hb.cell (HS2.out _ hp)) (fun b h => by have := HS1.out b h; have := hb.size; omega) (fun b h => by have := HS2.out b h; have := hb.size; omega))
      have HSK := HXX
      clear he he' hsz htv2 htv3 ecs1 ecs2 hcs1 hcs2 hab1 hab2 hlv2 hlv3 HXX
      have l16 : ((j : Int) < (L : Int) + 16) = True := eq_true (by omega)
      go_upto_region 8 with fail
      refine wp_region_held_drew (S := (fun wy => wy.cell? (ad.add (j * 5)) = some (.int .i64 h0.kind) ∧ wy.cell? ⟨(ad.add (j * 5)).block, (ad.add (j * 5)).off + 1, none⟩ = some (.int .i64 h0.num) ∧ wy.cell? ⟨(ad.add (j * 5)).block, (ad.add (j * 5)).off + 2, none⟩ = some (.string ⟨h0.text.toArray⟩) ∧ wy.cell? ⟨(ad.add (j * 5)).block, (ad.add (j * 5)).off + 3, none⟩ = some (.slice (some ⟨g, 0, none⟩) kk.len q) ∧ wy.cell? ⟨(ad.add (j * 5)).block, (ad.add (j * 5)).off + 4, none⟩ = some (.slice (some ⟨g', 0, none⟩) h0.keys.length q') ∧ wy.cell? (ad2.add (j * 5)) = some (.int .i64 h0.kind) ∧ wy.cell? ⟨(ad2.add (j * 5)).block, (ad2.add (j * 5)).off + 1, none⟩ = some (.int .i64 h0.num) ∧ wy.cell? ⟨(ad2.add (j * 5)).block, (ad2.add (j * 5)).off + 2, none⟩ = some (.string ⟨h0.text.toArray⟩) ∧ wy.cell? ⟨(ad2.add (j * 5)).block, (ad2.add (j * 5)).off + 3, none⟩ = some (.slice A6 kk.len c6) ∧ wy.cell? ⟨(ad2.add (j * 5)).block, (ad2.add (j * 5)).off + 4, none⟩ = some (.slice A7 h0.keys.length c7))) (by kernel_rfl) (HSK.out _ HB.out.drew) (fun hHeld => ?_)
      refine wpAnyH_take (i := 0) (oi := { dst := some 24, op := Op.move (Operand.tmp 6), type := 22, pos := "nested.go:560", after := #[], guard := none }) (v := ?_) rfl (by kernel_rfl) (by kernel_rfl) (by kernel_rfl) (fun _ _ _ h => h) (Or.inl ⟨by rfl, ?_⟩) (by assumption) ?_
      rotate_left
      · (intro w hSw; (try dsimp only at hSw); go_simp; try with_reducible rfl)
      try simp only [Act.put, List.setIfInBounds_toArray, List.set_cons_zero, List.set_cons_succ]
      refine wpAnyH_take (i := 1) (oi := { dst := some 25, op := Op.move (Operand.tmp 7), type := 3, pos := "nested.go:560", after := #[], guard := none }) (v := ?_) rfl (by kernel_rfl) (by kernel_rfl) (by kernel_rfl) (fun _ _ _ h => h) (Or.inl ⟨by rfl, ?_⟩) (by assumption) ?_
      rotate_left
      · (intro w hSw; (try dsimp only at hSw); go_simp; try with_reducible rfl)
      try simp only [Act.put, List.setIfInBounds_toArray, List.set_cons_zero, List.set_cons_succ]
      refine wpAnyH_take (i := 2) (oi := { dst := some 26, op := Op.indexAddr 22 (Operand.tmp 24) (Operand.tmp 25), type := 0, pos := "nested.go:560", after := #[{ on := 0, ground := Ground.data }, { on := 1, ground := Ground.data }], guard := none }) (v := ?_) rfl (by kernel_rfl) (by kernel_rfl) (by kernel_rfl) (fun _ _ _ h => h) (Or.inl ⟨by rfl, ?_⟩) (by assumption) ?_
      rotate_left
      · (intro w hSw; (try dsimp only at hSw); go_simp; try with_reducible rfl)
      try simp only [Act.put, List.setIfInBounds_toArray, List.set_cons_zero, List.set_cons_succ]
      refine wpAnyH_take (i := 3) (oi := { dst := some 27, op := Op.load 25 (Operand.tmp 26), type := 25, pos := "nested.go:560", after := #[{ on := 2, ground := Ground.data }], guard := none }) (v := ?_) rfl (by kernel_rfl) (by kernel_rfl) (by kernel_rfl) (fun _ _ _ h => h) (Or.inl ⟨by rfl, ?_⟩) (by assumption) ?_
      rotate_left
      · (intro w hSw; (try dsimp only at hSw); go_simp; try with_reducible rfl)
      try simp only [Act.put, List.setIfInBounds_toArray, List.set_cons_zero, List.set_cons_succ]
      refine wpAnyH_take (i := 4) (oi := { dst := some 28, op := Op.move (Operand.tmp 1), type := 22, pos := "nested.go:560", after := #[], guard := none }) (v := ?_) rfl (by kernel_rfl) (by kernel_rfl) (by kernel_rfl) (fun _ _ _ h => h) (Or.inl ⟨by rfl, ?_⟩) (by assumption) ?_
      rotate_left
      · (intro w hSw; (try dsimp only at hSw); go_simp; try with_reducible rfl)
      try simp only [Act.put, List.setIfInBounds_toArray, List.set_cons_zero, List.set_cons_succ]
      refine wpAnyH_take (i := 5) (oi := { dst := some 29, op := Op.move (Operand.tmp 7), type := 3, pos := "nested.go:560", after := #[], guard := none }) (v := ?_) rfl (by kernel_rfl) (by kernel_rfl) (by kernel_rfl) (fun _ _ _ h => h) (Or.inl ⟨by rfl, ?_⟩) (by assumption) ?_
      rotate_left
      · (intro w hSw; (try dsimp only at hSw); go_simp; try with_reducible rfl)
      try simp only [Act.put, List.setIfInBounds_toArray, List.set_cons_zero, List.set_cons_succ]
      refine wpAnyH_take (i := 6) (oi := { dst := some 30, op := Op.indexAddr 22 (Operand.tmp 28) (Operand.tmp 29), type := 0, pos := "nested.go:560", after := #[{ on := 4, ground := Ground.data }, { on := 5, ground := Ground.data }], guard := none }) (v := ?_) rfl (by kernel_rfl) (by kernel_rfl) (by kernel_rfl) (fun _ _ _ h => h) (Or.inl ⟨by rfl, ?_⟩) (by assumption) ?_
      rotate_left
      · (intro w hSw; (try dsimp only at hSw); go_simp; try with_reducible rfl)
      try simp only [Act.put, List.setIfInBounds_toArray, List.set_cons_zero, List.set_cons_succ]
      refine wpAnyH_take (i := 7) (oi := { dst := some 31, op := Op.load 25 (Operand.tmp 30), type := 25, pos := "nested.go:560", after := #[{ on := 6, ground := Ground.data }], guard := none }) (v := ?_) rfl (by kernel_rfl) (by kernel_rfl) (by kernel_rfl) (fun _ _ _ h => h) (Or.inl ⟨by rfl, ?_⟩) (by assumption) ?_
      rotate_left
      · (intro w hSw; (try dsimp only at hSw); go_simp; try with_reducible rfl)
      try simp only [Act.put, List.setIfInBounds_toArray, List.set_cons_zero, List.set_cons_succ]
      refine wpAnyH_ready (rs := [8]) (by kernel_rfl) (by simp) ?_
      refine AllReadyH.cons (o := { dst := some 32, op := Op.call { callee := Callee.value (Operand.func 14), args := #[Operand.tmp 27, Operand.tmp 31], argTypes := #[25, 25] }, type := 4, pos := "nested.go:560", after := #[{ on := 3, ground := Ground.data }, { on := 7, ground := Ground.data }], guard := none }) rfl (fun K hK => ?_) AllReadyH.nil
      rw [if_pos (by rfl)]
      go_simp
      refine (HCL.out _ HB.out.drew).mono ?_
      rintro x w4 ⟨rfl, hb4⟩
      have HB4 : Hid (Below w.heap.size w w4) := Lib.hid (HB.out.drew.trans (hb4.mono HB.out.size))
      refine hK.out _ _ (HSK.out _ HB4.out) (fun _ => ?_)
      clear hK hb4
      try simp only [Act.put, List.setIfInBounds_toArray, List.set_cons_zero, List.set_cons_succ]
      refine wpAnyH_take (i := 9) (oi := { dst := some 33, op := Op.unOp UnOp.not 4 (Operand.tmp 32), type := 4, pos := "nested.go:560", after := #[{ on := 8, ground := Ground.data }], guard := none }) (v := ?_) rfl (by kernel_rfl) (by kernel_rfl) (by kernel_rfl) (fun _ _ _ h => h) (Or.inl ⟨by rfl, ?_⟩) (by assumption) ?_
      rotate_left
      · (intro w hSw; (try dsimp only at hSw); go_simp; try with_reducible rfl)
      try simp only [Act.put, List.setIfInBounds_toArray, List.set_cons_zero, List.set_cons_succ]
      refine wpAnyH_done (by kernel_rfl) ?_ _
      go_wp2_with fail
      go_roundw
      case rel => exact ⟨j + 1, by omega, by go_num, HB4⟩
      case measure => simp [intOf]; omega
    · obtain rfl : L = j := by omega
      obtain ⟨w0, hw0⟩ : ∃ w0, w0 = wr := ⟨_, rfl⟩
      subst hw0
      go_wp2_with fail
      go_loopw [8] (fun i wr => ∃ m : Nat, m ≤ 16 ∧ i = .int .i64 ((L + m : Nat) : Int) ∧ wr = w0) (fun i _ => L + 16 - (intOf i).toNat)
      case atStart => exact ⟨0, by omega, by go_num, rfl⟩
      case round =>
        obtain ⟨m, hm, rfl, rfl⟩ := hrel
        by_cases hlt2 : m < 16
        · obtain ⟨ad1, e1, hab1, hcs1⟩ := HR1.out.2 (by omega)
          cases e1
          have hx := (HB.out.cell (show (ad.add ((L + m) * 5)).block < w.heap.size by rw [block_of_add]; exact hab1)).trans (hcs1 ((L + m) * 5) (.int .i64 (-7)) (by
            rw [List.getElem?_append_right (by have := HVL.out; omega), show (L + m) * 5 - vs.length = m * 5 by have := HVL.out; omega]
            exact mks_at hlt2))
          clear hcs1 hab1
          have hlm : L + m < L + 16 := by omega
          go_wp2_with fail
          go_roundw
          case rel => exact ⟨m + 1, by omega, by go_num, trivial⟩
          case measure => simp [intOf]; omega
        · obtain rfl : m = 16 := by omega
          go_wp2
          go_ret
          exact ⟨rfl, HB.out⟩
set_option maxHeartbeats 3200000 in
set_option maxRecDepth 100000 in
theorem kept_step (n : Nat) (hKS : KeptsC n) : KeptC n := by
  intro h k iv kv iv2 kv2 S1 S2 w hk hlv htv hS1 hS2
  obtain ⟨g, q, g', q', us, rfl, rfl, hbd, hr1, hlt, hr3⟩ := lv_parts hlv
  obtain ⟨A1, c1, A2, c2, us2, rfl, rfl, hlk, hlq, hr2, htr, hr4⟩ := tv_parts htv
  clear hlv htv
  obtain ⟨L, hL⟩ : ∃ L, L = k.len := ⟨_, rfl⟩
  obtain ⟨nk, hnk⟩ : ∃ nk, nk = h.keys.length := ⟨_, rfl⟩
  obtain ⟨b0, hb0⟩ : ∃ b0, b0 = w.heap.size := ⟨_, rfl⟩
  obtain ⟨wz, hwz⟩ : ∃ wz, wz = (w.alloc (.cells #[.int .i64 h.kind, .int .i64 h.num, .string ⟨h.text.toArray⟩, .slice (some ⟨g, 0, none⟩) L q, .slice (some ⟨g', 0, none⟩) nk q'] 25)).alloc (.cells #[.int .i64 h.kind, .int .i64 h.num, .string ⟨h.text.toArray⟩, .slice A1 L c1, .slice A2 nk c2] 25) := ⟨_, rfl⟩
  have HBA : Hid (Blk wz b0 25 #[.int .i64 h.kind, .int .i64 h.num, .string ⟨h.text.toArray⟩, .slice (some ⟨g, 0, none⟩) L q, .slice (some ⟨g', 0, none⟩) nk q']) := Lib.hid (by rw [hwz, hb0]; exact Blk.alloc (Blk.new _ _ _) _)
  have HBB : Hid (Blk wz (b0 + 1) 25 #[.int .i64 h.kind, .int .i64 h.num, .string ⟨h.text.toArray⟩, .slice A1 L c1, .slice A2 nk c2]) := Lib.hid (by
    have := Blk.new (w.alloc (.cells #[.int .i64 h.kind, .int .i64 h.num, .string ⟨h.text.toArray⟩, .slice (some ⟨g, 0, none⟩) L q, .slice (some ⟨g', 0, none⟩) nk q'] 25)) 25 #[.int .i64 h.kind, .int .i64 h.num, .string ⟨h.text.toArray⟩, .slice A1 L c1, .slice A2 nk c2]
    rw [World.size_alloc] at this
    rw [hwz, hb0]; exact this)
  have HZ : Hid (Below w.heap.size w wz) := Lib.hid (by rw [hwz]; exact ((Below.refl _ _).alloc (Nat.le_refl _) _).alloc (by simp) _)
  have HKS : Hid (Calls Tryz.prog 42 #[.slice (some ⟨g, 0, none⟩) L q, .slice A1 L c1] wz fun x w' => x = .returned (.bool true) ∧ Below wz.heap.size wz w') := Lib.hid (by
    rw [hL]
    exact hKS k ⟨g, 0, none⟩ q us A1 c1 us2 S1 S2 wz hk hbd.1 hbd.2.2.1 (hr1.kept fun p hp => HZ.out.cell (hS1 _ hp)) (hlt.kept fun p hp => HZ.out.cell (hS1 _ hp)) (hr2.kept fun p hp => HZ.out.cell (hS2 _ hp)) (htr.kept fun p hp => HZ.out.cell (hS2 _ hp)) (fun b hb => by have := hS1 b hb; have := HZ.out.size; omega) (fun b hb => by have := hS2 b hb; have := HZ.out.size; omega))
  have HKT : Hid (∀ wx, Below w.heap.size w wx → Calls Tryz.prog 43 #[.slice (some ⟨g', 0, none⟩) nk q', .slice A2 nk c2] wx fun x w' => x = .returned (.bool true) ∧ Below wx.heap.size wx w') := Lib.hid (fun wx hb => by
    rw [hnk]
    exact keptTexts_any A2 g' h.keys.length c2 q' h.keys wx (((hr4.reads hS2).below hb).more hb.size) hbd.2.2.2 (((hr3.reads hS1).below hb).more hb.size) hlq)
  rw [← hL, ← hnk]
  clear hKS hk hbd hr1 hlt hr3 hlk hlq hr2 htr hr4 hS1 hS2 hL hnk
  have a0 := HBA.out.cell 0
  have a1 := HBA.out.cell 1
  have a2 := HBA.out.cell 2
  have a3 := HBA.out.cell 3
  have e0 := HBB.out.cell 0
  have e1 := HBB.out.cell 1
  have e2 := HBB.out.cell 2
  have e3 := HBB.out.cell 3
  go_enter Tryz.func14, Tryz.ntmps14
  go_upto_region 1 with fail
  rw [← hwz, ← hb0]
  clear hwz hb0
  go_wp2_with fail
  refine HKS.out.mono ?_
  rintro x w1 ⟨rfl, hb1⟩
  have HA1 := Lib.hid (HBA.out.below hb1 HBA.out.lt)
  have HE1 := Lib.hid (HBB.out.below hb1 HBB.out.lt)
  have HB1 : Hid (Below w.heap.size w w1) := Lib.hid (HZ.out.trans (hb1.mono HZ.out.size))
  clear hb1 HKS a0 a1 a2 a3 e0 e1 e2 e3
  have a4 := HA1.out.cell 4
  have e4 := HE1.out.cell 4
  have HK1 := Lib.hid (HKT.out w1 HB1.out)
  go_wp2_with fail
  refine HK1.out.mono ?_
  rintro x w2 ⟨rfl, hb2⟩
  have HB2 : Hid (Below w.heap.size w w2) := Lib.hid (HB1.out.trans (hb2.mono HB1.out.size))
  clear hb2 HK1
  go_wp2
  go_ret
  exact ⟨rfl, HB2.out⟩
theorem kept_any (n : Nat) : KeptC n := by
  induction n using Nat.strongRecOn with
  | ind n ih => exact kept_step n (kepts_step n fun m hm => ih m hm)
end Js
end Go.Proofs.YtlfeddgpfaigkaaGreatDoor
