/-
  The walk of package json's all at this seat's translation: values turned into nodes. What a node of a value is, what is wrong with one.
-/
import Derived.Test.YtlfeddgpfaigkaaGreatDoorJsWv
namespace Go.Proofs.YtlfeddgpfaigkaaGreatDoor
open Go.RowKit
namespace Js
def errnoV (n : Nat) : Value := .iface 95 (.int .i64 n)
/-- A text that fits into memory. -/
def Fit (h : Hd) : Prop := h.text.length ≤ 4398046511104 ∧ ∀ x ∈ h.keys, x.length ≤ 4398046511104
theorem All_at {P : Hd → Prop} {f : F} (h : f.All P) {i : Nat} {h0 : Hd} {k : F} (e : (toL f)[i]? = some (h0, k)) : P h0 ∧ k.All P := by
  induction f generalizing i with
  | nil => simp [toL] at e
  | cons h1 k1 r _ ih =>
    cases i with
    | zero => simp [toL] at e; obtain ⟨rfl, rfl⟩ := e; exact ⟨h.1, h.2.1⟩
    | succ i => exact ih h.2.2 (by simpa [toL] using e)
theorem take_app (f : F) (i : Nat) : ∃ g, f = (f.take i).app g := by
  induction f generalizing i with
  | nil => exact ⟨.nil, by cases i <;> rfl⟩
  | cons h k r _ ih =>
    cases i with
    | zero => exact ⟨_, rfl⟩
    | succ i => obtain ⟨g, e⟩ := ih i; exact ⟨g, by simp only [F.take, F.app]; rw [← e]⟩
theorem wrongsF_app (d : Nat) (f g : F) : wrongsF d (f.app g) = if wrongsF d f ≠ 0 then wrongsF d f else wrongsF d g := by
  induction f with
  | nil => simp [F.app, wrongsF]
  | cons h k r _ ih =>
    rw [F.app, wrongsF_cons, wrongsF_cons, ih]
    by_cases h1 : wrongs d h k = 0 <;> simp [h1]
theorem wrongsF_take {d : Nat} {f : F} {i : Nat} {h : Hd} {k : F} (e : (toL f)[i]? = some (h, k)) (h0 : wrongsF d (f.take i) = 0) : wrongsF d (f.take (i + 1)) = wrongs d h k := by
  rw [F.take_succ e, wrongsF_app, h0, wrongsF_cons]
  by_cases h1 : wrongs d h k = 0 <;> simp [h1, wrongsF]
theorem wrongsF_bad {d : Nat} {f : F} {i : Nat} {h : Hd} {k : F} (e : (toL f)[i]? = some (h, k)) (h0 : wrongsF d (f.take i) = 0) (hw : wrongs d h k ≠ 0) : wrongsF d f = wrongs d h k := by
  obtain ⟨g, hg⟩ := take_app f (i + 1)
  have := wrongsF_app d (f.take (i + 1)) g
  rw [← hg, wrongsF_take e h0, if_pos hw] at this
  exact this
theorem trim_take {f : F} {i : Nat} {h : Hd} {k : F} (e : (toL f)[i]? = some (h, k)) : trim (f.take (i + 1)) = (trim (f.take i)).app (.cons (trimH h) (trimK h k) .nil) := by rw [F.take_succ e, trim_app, trim_cons]; rfl
theorem at5 {us : List Value} {n : Nat} {a b c d e : Value} (h : (us.drop n).take 5 = [a, b, c, d, e]) : us[n]? = some a ∧ us[n + 1]? = some b ∧ us[n + 2]? = some c ∧ us[n + 3]? = some d ∧ us[n + 4]? = some e := by
  have g : ∀ j, j < 5 → us[n + j]? = ([a, b, c, d, e] : List Value)[j]? := fun j hj => by rw [← h, List.getElem?_take_of_lt hj, List.getElem?_drop]
  exact ⟨g 0 (by decide), g 1 (by decide), g 2 (by decide), g 3 (by decide), g 4 (by decide)⟩
theorem cells5 {w : World} {ad : Addr} {us : List Value} {k : Nat} {a b c d e : Value} (hc : ∀ j u, us[j]? = some u → w.cell? (ad.add j) = some u) (h : (us.drop (k * 5)).take 5 = [a, b, c, d, e]) :
    w.cell? (ad.add (k * 5)) = some a ∧ w.cell? ⟨(ad.add (k * 5)).block, (ad.add (k * 5)).off + 1, none⟩ = some b ∧ w.cell? ⟨(ad.add (k * 5)).block, (ad.add (k * 5)).off + 2, none⟩ = some c ∧ w.cell? ⟨(ad.add (k * 5)).block, (ad.add (k * 5)).off + 3, none⟩ = some d ∧ w.cell? ⟨(ad.add (k * 5)).block, (ad.add (k * 5)).off + 4, none⟩ = some e := by
  obtain ⟨h0, h1, h2, h3, h4⟩ := at5 h
  have g : ∀ j u, us[k * 5 + j + 1]? = some u → w.cell? ⟨(ad.add (k * 5)).block, (ad.add (k * 5)).off + (j + 1), none⟩ = some u := fun j u hu => by
    have e := hc _ _ hu
    rw [Nat.add_assoc, ← add_of_add] at e
    rw [← e]; unfold Addr.add; simp
  exact ⟨hc _ _ h0, g 0 _ h1, g 1 _ h2, g 2 _ h3, g 3 _ h4⟩
/-- What of answers. -/
def OfPost (d : Nat) (h : Hd) (k : F) (S : Nat → Prop) (w : World) (x : Ending) (w' : World) : Prop :=
  (wrongs d h k = 0 ∧ ∃ u S', x = .returned (.tuple #[u, .nilIface]) ∧ TV (encN false) w' S' (trimH h) (trimK h k) [u] ∧ (∀ b, S' b → S b ∨ (w.heap.size ≤ b ∧ b < w'.heap.size)) ∧ Below w.heap.size w w') ∨
  (wrongs d h k ≠ 0 ∧ ∃ u, x = .returned (.tuple #[u, errnoV (wrongs d h k)]) ∧ Below w.heap.size w w')
/-- What all answers. -/
def AllPost (d : Nat) (f : F) (S : Nat → Prop) (w : World) (x : Ending) (w' : World) : Prop :=
  (wrongsF (d + 1) f = 0 ∧ ∃ v, x = .returned (.tuple #[v, .nilIface]) ∧ TL (encN false) w' w.heap.size S 87 v (trim f) ∧ Below w.heap.size w w') ∨
  (wrongsF (d + 1) f ≠ 0 ∧ x = .returned (.tuple #[.slice none 0 0, errnoV (wrongsF (d + 1) f)]) ∧ Below w.heap.size w w')
def OfC (n : Nat) : Prop := ∀ (d : Nat) (h : Hd) (k : F) (iv kv : Value) (S : Nat → Prop) (w : World), k.sz ≤ n → d ≤ 33 → Fit h → k.All Fit → TV encJ w S h k (jcells h iv kv) → (∀ b, S b → b < w.heap.size) → St w →
  Calls Tryz.prog 36 #[.agg #[.int .i64 h.kind, .int .i64 h.num, .string ⟨h.text.toArray⟩, iv, kv], .int .i64 d] w (OfPost d h k S w)
def AllC (n : Nat) : Prop := ∀ (d : Nat) (f : F) (A : Option Addr) (c : Nat) (us : List Value) (S : Nat → Prop) (w : World), f.sz ≤ n → f.len ≤ 4398046511104 → d ≤ 32 → f.All Fit → RdS w S 5 A f.len us → TR encJ w S f us → (∀ b, S b → b < w.heap.size) → St w →
  Calls Tryz.prog 90 #[.slice A f.len c, .int .i64 d] w (AllPost d f S w)
-- <
set_option maxHeartbeats 16000000 in
set_option maxRecDepth 100000 in
theorem all_step (n : Nat) (hO : ∀ m, m < n → OfC m) : AllC n := by
  intro d f A c us S w hf hl hd hfit hr htr hS hst
  have HO := Lib.hid hO
  have HF := Lib.hid hf
  have HR := Lib.hid hr
  have HTR := Lib.hid htr
  have HS := Lib.hid hS
  have HST := Lib.hid hst
  have HFIT := Lib.hid hfit
  have HD := Lib.hid hd
  obtain ⟨L, hL⟩ : ∃ L, L = f.len := ⟨_, rfl⟩
  have HL := Lib.hid hL
  rw [← hL] at HR hl ⊢
  clear hO hf hr htr hS hst hfit hd hL
  go_enter Tryz.func90, Tryz.ntmps90
  go_wp2_with fail
  go_loopw [6, 13] (fun v i wr => ∃ (k : Nat), k ≤ L ∧ i = .int .i64 k ∧ Hid (wrongsF (d + 1) (f.take k) = 0) ∧ Hid (TL (encN false) wr w.heap.size S 87 v (trim (f.take k))) ∧ Hid (Below w.heap.size w wr)) (fun _ i _ => L - (intOf i).toNat)
  case atStart => exact ⟨0, by omega, rfl, Lib.hid rfl, Lib.hid (TL.nil _ _ _ _ _), Lib.hid (Below.refl _ _)⟩
  case round =>
    obtain ⟨k, hk, rfl, HW, HT, HB⟩ := hrel
    by_cases hlt : k < L
    · obtain ⟨ad, rfl, hab, hcs⟩ := HR.out.2 (by omega)
      obtain ⟨h0, kk, he, hsz, htv⟩ := HTR.out.at_ (i := k) (by have := HL.out; omega)
      obtain ⟨hf0, hfk⟩ := All_at HFIT.out he
      obtain ⟨A1, c1, A2, c2, us2, ecs, htv'⟩ := htv
      have hcs' := fun j u hu => (HB.out.cell (show (ad.add j).block < w.heap.size by rw [block_of_add]; exact HS.out _ hab)).trans (hcs j u hu)
      obtain ⟨cc0, cc1, cc2, cc3, cc4⟩ := cells5 hcs' ecs
      have HTV : Hid (TV encJ w S h0 kk (jcells h0 (.slice A1 kk.len c1) (.slice A2 h0.keys.length c2))) := Lib.hid ⟨A1, c1, A2, c2, us2, rfl, htv'⟩
      have HSZ : Hid (kk.sz < n) := Lib.hid (by have := HF.out; omega)
      have HFT : Hid (Fit h0 ∧ kk.All Fit) := Lib.hid ⟨hf0, hfk⟩
      have HE := Lib.hid he
      have HC : Hid (∀ wx, Below w.heap.size w wx → Calls Tryz.prog 36 #[.agg #[.int .i64 h0.kind, .int .i64 h0.num, .string ⟨h0.text.toArray⟩, .slice A1 kk.len c1, .slice A2 h0.keys.length c2], .int .i64 ((d + 1 : Nat) : Int)] wx (OfPost (d + 1) h0 kk S wx)) :=
        Lib.hid fun wx hb => HO.out _ HSZ.out (d + 1) h0 kk _ _ S wx (Nat.le_refl _) (by have := HD.out; omega) hf0 hfk (HTV.out.kept fun p hp => hb.cell (HS.out _ hp)) (fun b h => by have := HS.out b h; have := hb.size; omega) (HST.out.below hb)
      rw [show (((d + 1 : Nat) : Int)) = (d : Int) + 1 by push_cast; rfl] at HC
      have hd2 := HD.out
      clear htv' ecs hcs hcs' he hsz hf0 hfk
      have hsw := HB.out.size
      go_wp2_with fail
      refine (HC.out _ (HB.out.alloc hsw _)).mono ?_
      rintro x w1 (⟨hw0, u, S', rfl, htu, hS', hb1⟩ | ⟨hw0, u, rfl, hb1⟩)
      · obtain ⟨T0, y0, rfl⟩ := htu.iface
        have hsz1 : wr.heap.size + 1 ≤ w1.heap.size := by have := hb1.size; simpa using this
        have hS1 : ∀ b, S' b → S b ∨ (wr.heap.size < b ∧ b < w1.heap.size) := fun b hb => by
          rcases hS' b hb with h | h
          · exact .inl h
          · right
            have h1 : wr.heap.size + 1 ≤ b := by have := h.1; simpa using this
            exact ⟨h1, h.2⟩
        have hbw : Below wr.heap.size wr w1 := ((Below.refl _ wr).alloc (Nat.le_refl _) _).trans (hb1.mono (by simp))
        have HT1 : Hid (TL (encN false) w1 w.heap.size S 87 u6 (trim (f.take k))) := Lib.hid (HT.out.kept (fun b _ h => hbw.block b h) (fun b h1 h2 => hbw.block b (by omega)) hbw.size)
        have HB1 : Hid (Below w.heap.size w w1) := Lib.hid (HB.out.trans (hbw.mono hsw))
        have HOWN : Hid (∀ b, u6.ownBlock = some b → b < wr.heap.size) := Lib.hid fun b hb => (HT.out.own hb).2
        have HTU := Lib.hid (htu.tr)
        have HTRM : Hid ((trim (f.take k)).app (.cons (trimH h0) (trimK h0 kk) .nil) = trim (f.take (k + 1))) := Lib.hid (trim_take HE.out).symm
        have HLEN : Hid ((trim (f.take k)).len = k) := Lib.hid (by rw [trim_len, F.take_len (by have := HL.out; omega)])
        have HWN : Hid (wrongsF (d + 1) (f.take (k + 1)) = 0) := Lib.hid (by rw [wrongsF_take HE.out HW.out]; exact hw0)
        have HS2 := Lib.hid hS1
        clear hS' hS1 htu hb1 hw0 HC HT hbw HB HTV
        go_wp2_with (at_builtin; refine wpList_push rfl 155 Tryz.underlying155 _ _ rfl false w.heap.size _ S _ _ rfl (HT1.out.alloc (by omega) _) _ 1 1 [.iface T0 y0] rfl (Reads.one (cell_new1 _ _ _) (by simp)) S' _ (HTU.out.kept fun p hp => ?_) rfl ?_ (by rw [HLEN.out]; omega) (by simp; omega) ?_)
        · exact World.cell?_alloc_lt _ _ _ (by
            rcases HS2.out _ hp with h | h
            · have := HS.out _ h; omega
            · exact h.2)
        · intro b hb
          rcases HS2.out b hb with h | h
          · exact .inr ⟨h, HS.out b h⟩
          · exact .inl ⟨by omega, by simp; omega, fun e => by have := HOWN.out b e; omega⟩
        · intro v' w' hT' hK'
          rw [HTRM.out] at hT'
          have HT2 := Lib.hid hT'
          have HB2 : Hid (Below w.heap.size w w') := Lib.hid ((HB1.out.alloc HB1.out.size _).trans hK'.below)
          clear hT' hK' HT1 HB1
          go_wp2_with fail
          refine ⟨⟨k + 1, by omega, by push_cast; rfl, HWN, HT2, HB2⟩, ?_⟩
          show L - ((k : Int) + 1).toNat < L - ((k : Int)).toNat
          omega
      · unfold errnoV
        go_wp2
        go_ret2
        have hbw : Below wr.heap.size wr w1 := ((Below.refl _ wr).alloc (Nat.le_refl _) _).trans (hb1.mono (by simp))
        refine .inr ?_
        rw [wrongsF_bad HE.out HW.out hw0]
        exact ⟨hw0, rfl, HB.out.trans (hbw.mono hsw)⟩
    · have hkL : k = L := by omega
      subst hkL
      go_wp2
      go_ret2
      refine .inl ⟨?_, _, rfl, ?_, HB.out⟩
      · have := HW.out; rwa [HL.out, F.take_all] at this
      · have := HT.out; rwa [HL.out, F.take_all] at this
-- >
end Js
end Go.Proofs.YtlfeddgpfaigkaaGreatDoor
