/-
  The walk of package json's values at this seat's translation, for every list of nodes.
-/
import Derived.Test.YtlfeddgpfaigkaaGreatDoorJsW
import Derived.Test.YtlfeddgpfaigkaaGreatDoorJsZ
namespace Go.Proofs.YtlfeddgpfaigkaaGreatDoor
open Go.RowKit
namespace Js
-- <
theorem plainMethodValue (v : Value) (w : World) : (Go.method 490 152 v "strata/json.value").run Tryz.prog w = .ok (225, v) w := by kernel_rfl
theorem numberMethodValue (v : Value) (w : World) : (Go.method 490 153 v "strata/json.value").run Tryz.prog w = .ok (226, v) w := by kernel_rfl
theorem textMethodValue (v : Value) (w : World) : (Go.method 490 154 v "strata/json.value").run Tryz.prog w = .ok (227, v) w := by kernel_rfl
theorem listMethodValue (v : Value) (w : World) : (Go.method 490 158 v "strata/json.value").run Tryz.prog w = .ok (228, v) w := by kernel_rfl
theorem objectMethodValue (v : Value) (w : World) : (Go.method 490 161 v "strata/json.value").run Tryz.prog w = .ok (230, v) w := by kernel_rfl
/-- A node's method value, whatever its kind. -/
theorem node_value (n : Nat) (hV : ∀ m, m < n → ValsC m) {w : World} {S : Nat → Prop} {h : Hd} {k : F} {u : Value} (hv : TV (encN true) w S h k [u]) (h1 : trimH h = h) (h2 : trimK h k = k) (hS : ∀ b, S b → b < w.heap.size) (hk : k.sz < n) :
    ∃ T v fn, u = .iface T v ∧ (∀ wx, (Go.method 490 T v "strata/json.value").run Tryz.prog wx = .ok (fn, v) wx) ∧ (∀ wx, (Go.callFunc fn #[v]).run Tryz.prog wx = .ok (.enter fn #[v]) wx) ∧ Calls Tryz.prog fn #[v] w (VPost h k w) := by
  rcases node_cases hv h1 h2 with ⟨z, rfl, rfl, rfl⟩ | ⟨z, rfl, rfl, rfl⟩ | ⟨t, rfl, rfl, rfl⟩ | ⟨A2, c2, us2, rfl, rfl, htk, hkl, r1, r2⟩ | ⟨A2, c2, us2, A3, c3, ks, rfl, rfl, htk, hkl, hksl, hksn, r1, r2, r3⟩
  · exact ⟨_, _, _, rfl, plainMethodValue _, (fun _ => by kernel_rfl), plain_value z w⟩
  · exact ⟨_, _, _, rfl, numberMethodValue _, (fun _ => by kernel_rfl), number_value z w⟩
  · exact ⟨_, _, _, rfl, textMethodValue _, (fun _ => by kernel_rfl), text_value t w⟩
  · exact ⟨_, _, _, rfl, listMethodValue _, (fun _ => by kernel_rfl), list_value k.sz (hV _ hk) k A2 c2 us2 S w (Nat.le_refl _) htk hkl r1 r2 hS⟩
  · exact ⟨_, _, _, rfl, objectMethodValue _, (fun _ => by kernel_rfl), object_value k.sz (hV _ hk) k ks A2 A3 c2 c3 us2 S w (Nat.le_refl _) htk hkl r1 r2 hS ks.length rfl hksl r3 hksn⟩
/-- A value's two lists are lists. -/
theorem ot_form {w : World} {B : Nat} {eI eK : TypeId} {h : Hd} {k : F} {iv kv : Value} {bs : List Nat} (ht : OT encJ w B eI eK (.cons h k .nil) (jcells h iv kv) bs) : (∃ A c, iv = .slice A k.len c) ∧ ∃ A c, kv = .slice A h.keys.length c := by
  obtain ⟨iv', kv', us, rest, b1, b2, he, _, _, h1, _, h3, _⟩ := ht
  simp only [encJ, jcells, List.cons_append, List.cons.injEq] at he
  obtain ⟨_, _, _, rfl, rfl, _⟩ := he
  obtain ⟨A, c, e, _⟩ := own_readsN h1
  obtain ⟨A2, c2, e2, _⟩ := own_readsN h3
  exact ⟨⟨A, c, e⟩, A2, c2, e2⟩
set_option maxHeartbeats 16000000 in
set_option maxRecDepth 100000 in
theorem vals_step (n : Nat) (hn : n ≤ 1099511627776) (hV : ∀ m, m < n → ValsC m) : ValsC n := by
  intro f A c us S w hf ht hl hr htr hS
  obtain ⟨i0, hi0, hz0, hz1, hz2⟩ := info_parts infoJson
  have hln : f.len ≤ 1099511627776 := Nat.le_trans f.len_sz (Nat.le_trans hf hn)
  have HV := Lib.hid hV
  have HF := Lib.hid hf
  have HR := Lib.hid (hr.reads hS)
  have HTR := Lib.hid htr
  have HS := Lib.hid hS
  have HT : Hid (trim f = f) := Lib.hid ht
  obtain ⟨L, hL⟩ : ∃ L, L = f.len := ⟨_, rfl⟩
  have HL := Lib.hid hL
  rw [← hL] at HR hln ⊢
  clear hV hf hr htr hS ht hl hL
  go_enter Tryz.func229, Tryz.ntmps229
  go_wp2_with fail
  go_loopw [3, 8] (fun v i wr => ∃ (k : Nat) (bs : List Nat), k ≤ L ∧ i = .int .i64 k ∧ Hid (OL encJ wr w.heap.size 25 9 v (f.take k) bs) ∧ Hid (Below w.heap.size w wr)) (fun _ i _ => L - (intOf i).toNat)
  case atStart => exact ⟨0, [], by omega, rfl, Lib.hid (OL.nil _ _ _ _ _), Lib.hid (Below.refl _ _)⟩
  case round =>
    obtain ⟨k, bs, hk, rfl, HO, HB⟩ := hrel
    by_cases hlt : k < L
    · obtain ⟨ad, u, rfl, _, hu, hc⟩ := (HR.out.below HB.out).at_ hlt
      obtain ⟨h0, kk, he, hsz, htv⟩ := HTR.out.at_ (i := k) (by have := HL.out; omega)
      obtain ⟨ht1, ht2⟩ := trim_at HT.out he
      have htv' : TV (encN true) w S h0 kk [u] := by
        have e1 : (us.drop (k * 1)).take 1 = [u] := by
          rw [Nat.mul_one]
          have hlt2 : k < us.length := by
            rcases Nat.lt_or_ge k us.length with h | h
            · exact h
            · rw [List.getElem?_eq_none h] at hu; cases hu
          rw [List.drop_eq_getElem_cons hlt2]
          rw [List.getElem?_eq_getElem hlt2] at hu
          injection hu with hu
          simp [hu]
        exact e1 ▸ htv
      have htv2 := htv'.kept (w' := wr) (fun p hp => HB.out.cell (HS.out _ hp))
      have hS2 : ∀ b, S b → b < wr.heap.size := fun b hb => by have := HS.out b hb; have := HB.out.size; omega
      have hkk : kk.sz < n := by have := HF.out; omega
      have HTK : Hid (f.take (k + 1) = (f.take k).app (.cons h0 kk .nil)) := Lib.hid (F.take_succ he)
      have HTL : Hid ((f.take k).len = k) := Lib.hid (F.take_len (by have := HL.out; omega))
      have hw := HB.out.size
      obtain ⟨T, v, fn, rfl, hmeth, hcf, hcall⟩ := node_value n HV.out htv2 ht1 ht2 hS2 hkk
      have HC := Lib.hid hcall
      clear hu htv htv' htv2 hS2 ht1 ht2 he hsz hcall
      go_wp2_with fail
      refine HC.out.mono ?_
      rintro x w1 ⟨iv, kv, bs2, rfl, hot, hnd, hb1⟩
      obtain ⟨⟨A1, c1, rfl⟩, A2, c2, rfl⟩ := ot_form hot
      obtain ⟨A0, c0, e0⟩ := HO.out.form
      rw [HTL.out] at e0
      subst e0
      obtain ⟨w2, hw2⟩ : ∃ w2, w2 = w1.alloc (.cells #[.int .i64 h0.kind, .int .i64 h0.num, .string ⟨h0.text.toArray⟩, .slice A1 kk.len c1, .slice A2 h0.keys.length c2] 25) := ⟨_, rfl⟩
      have HG : Hid (w2.heap[w1.heap.size]? = some (.cells #[.int .i64 h0.kind, .int .i64 h0.num, .string ⟨h0.text.toArray⟩, .slice A1 kk.len c1, .slice A2 h0.keys.length c2] 25)) := Lib.hid (by rw [hw2]; exact heap_alloc_new _ _)
      have hb2 : Below w1.heap.size w1 w2 := by rw [hw2]; exact (Below.refl _ _).alloc (Nat.le_refl _) _
      have hs1 := hb1.size
      have hs2 := hb2.size
      have HB2 : Hid (Below w.heap.size w w2) := Lib.hid (HB.out.trans ((hb1.mono hw).trans (hb2.mono (by omega))))
      have HSZ : Hid (w2.heap.size = w1.heap.size + 1 ∧ wr.heap.size ≤ w1.heap.size) := Lib.hid (by rw [hw2]; exact ⟨by simp, hs1⟩)
      have HNEW : Hid (∃ xs, w2.ownsRow w.heap.size 25 5 (.slice A0 k c0) k xs ∧ ∀ v' w', w'.ownsRow w.heap.size 25 5 v' (k + 1) (xs ++ jcells h0 (.slice A1 kk.len c1) (.slice A2 h0.keys.length c2)) → w2.grownBy w' (Value.ownBlock (.slice A0 k c0)) → (v'.ownBlock = Value.ownBlock (.slice A0 k c0) ∨ v'.ownBlock = some w2.heap.size) →
          OL encJ w' w.heap.size 25 9 v' (f.take (k + 1)) (bs ++ bs2)) := Lib.hid (by
        have hk1 : ∀ b, b < w1.heap.size → w2.heap[b]? = w1.heap[b]? := fun b hb => hb2.block b hb
        have hk2 : ∀ b, b < wr.heap.size → w1.heap[b]? = wr.heap[b]? := fun b hb => hb1.block b hb
        obtain ⟨xs, ho, ht, hnn⟩ := HO.out
        rw [HTL.out] at ho
        have ho2 : w2.ownsRow w.heap.size 25 5 (.slice A0 k c0) k xs := own_at ho (fun b hb => by have := (own_lt ho hb).2; rw [hk1 b (by omega), hk2 b this])
        refine ⟨xs, ho2, fun v' w' h1 h2 h3 => ?_⟩
        have ht2 : OT encJ w2 w.heap.size 25 9 (f.take k) xs bs := ht.kept fun b hb => by have := (ht.lt b hb).2; rw [hk1 b (by omega), hk2 b this]
        have hot2 := (hot.less (B' := w.heap.size) hw).kept (w' := w2) fun b hb => hk1 b (hot.lt b hb).2
        rw [HTK.out]
        refine OL.push ht2 hot2 ?_ (by rw [HTL.out]; exact h1) h2 h3
        rw [← List.append_assoc, List.nodup_append]
        refine ⟨hnn, hnd, fun a ha b hb e => ?_⟩
        subst e
        have h6 := (hot.lt a hb).1
        rcases List.mem_append.1 ha with h | h
        · have := (ob_lt ho h).2; omega
        · have := (ht.lt a h).2; omega)
      obtain ⟨xs, hown, hnew⟩ := HNEW.out
      have HOWN := Lib.hid hown
      have HN2 := Lib.hid hnew
      clear hown hnew HNEW hot hb1 hb2 hnd HC HO HB hs1 hs2
      go_wp2_with (at_builtin; (try rw [← hw2]); refine wpList_append_any _ rfl _ _ 22 rfl w.heap.size 25 i0 _ 5 80 Tryz.underlying22 hi0 hz0 hz1 hz2 rfl (by decide) (.slice A0 k c0) k xs rfl HOWN.out w2.heap.size (some ⟨w1.heap.size, 0, none⟩) 1 1 (jcells h0 (.slice A1 kk.len c1) (.slice A2 h0.keys.length c2)) rfl (Reads.of_block HG.out rfl) (encJ.one _ _ _ _ _ _ _) (by unfold maxLen; omega) (by omega) (by have := HB2.out.size; omega) ?_; intro v6 w6 hown6 hgrow6 hl6)
      refine ⟨⟨k + 1, bs ++ bs2, by omega, by push_cast; rfl, Lib.hid (HN2.out _ _ hown6 hgrow6 hl6), Lib.hid (Below.grown HB2.out hgrow6 HB2.out.size (fun g hg => (own_lt HOWN.out hg).1))⟩, ?_⟩
      show L - ((k : Int) + 1).toNat < L - ((k : Int)).toNat
      omega
    · have hkL : k = L := by omega
      subst hkL
      have HO1 : Hid (OL encJ wr w.heap.size 25 9 u3 f bs) := Lib.hid (by have := HO.out; rwa [HL.out, F.take_all] at this)
      go_wp2
      go_ret
      exact ⟨_, bs, rfl, HO1.out, HB.out⟩
theorem vals_any (n : Nat) : n ≤ 1099511627776 → ValsC n := by
  induction n using Nat.strongRecOn with
  | ind n ih => exact fun hn => vals_step n hn fun m hm => ih m hm (by omega)
-- >
end Js
end Go.Proofs.YtlfeddgpfaigkaaGreatDoor
