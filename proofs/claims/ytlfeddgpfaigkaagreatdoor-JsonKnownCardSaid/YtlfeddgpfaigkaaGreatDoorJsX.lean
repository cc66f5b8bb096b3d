/-
  The walk of package json's (*reader).text at this seat's translation, for every text.
-/
import Derived.Test.YtlfeddgpfaigkaaGreatDoorJsE
import Derived.Test.YtlfeddgpfaigkaaGreatDoorBld
namespace Go.Proofs.YtlfeddgpfaigkaaGreatDoor
open Go.RowKit
namespace Js
theorem Bd.kept {b : Nat} {l : List UInt8} {w w' : World} (h : Bd b l w) (hk : ∀ k, b ≤ k → k < w.heap.size → w'.heap[k]? = w.heap[k]?) : Bd b l w' := by
  have hc : ∀ p, Lib.BuilderAtF 92 5 b b p (Lib.byteCells l) w → Lib.BuilderAtF 92 5 b b p (Lib.byteCells l) w' := by
    rintro p ⟨hB, v, hb, ⟨hl, ho⟩, hne⟩
    refine ⟨hB, v, (hk b hB (Array.getElem?_eq_some_iff.1 hb).1).trans hb, ⟨hl, ?_⟩, hne⟩
    rcases ho with ho | ⟨g, cap, cur, fz, rfl, hg, hgg, r⟩
    · exact .inl ho
    · exact .inr ⟨g, cap, cur, fz, rfl, hg, (hk g hg (Array.getElem?_eq_some_iff.1 hgg).1).trans hgg, r⟩
  rcases h with h | h
  · exact .inl (hc _ h)
  · exact .inr (hc _ h)
theorem Bd.setCell {b : Nat} {l : List UInt8} {w : World} (h : Bd b l w) {p : Addr} (hp : p.block < b) (u : Value) : Bd b l (w.setCell p u) := Bd.kept h fun k hk _ => Below.heap_setCell w p u k (by omega)
theorem Bd.drewN {b : Nat} {l : List UInt8} {w : World} (h : Bd b l w) (n : Nat) : Bd b l (w.drewN n) := Bd.kept h fun _ _ _ => rfl
theorem Bd.step {b : Nat} {l : List UInt8} {w w' : World} (h : Bd b l w) (hb : Below w.heap.size w w') : Bd b l w' := Bd.kept h fun k _ hk => hb.block k hk
theorem esc_drop {t b r : List UInt8} (h : esc t = .emit b r) : ∃ n, r = t.drop n ∧ 2 ≤ n ∧ n ≤ t.length := by
  unfold esc at h
  split at h
  · rename_i a c q
    split at h
    · injection h with h1 h2
      subst h1 h2
      exact ⟨2, rfl, Nat.le_refl _, by simp⟩
    · unfold esc1 at h
      split at h
      · cases h
      · cases h
      · rename_i v hv
        obtain ⟨h6, _⟩ := unit_val hv
        split at h
        · injection h with h1 h2
          subst h1 h2
          exact ⟨6, rfl, by omega, h6⟩
        · split at h
          · cases h
          · unfold esc2 at h
            split at h
            · cases h
            · cases h
            · rename_i y hy
              obtain ⟨h12, _⟩ := unit_val hy
              rw [List.length_drop] at h12
              split at h
              · injection h with h1 h2
                subst h1 h2
                exact ⟨12, rfl, by omega, by omega⟩
              · cases h
  · cases h
theorem esc_err {t r : List UInt8} {no : Nat} (h : esc t = .err no r) : (no = 2 ∧ r = []) ∨ (no = 4 ∧ r = t) := by
  unfold esc esc1 esc2 at h
  repeat' split at h
  all_goals first
    | (injection h with h1 h2; subst h1 h2; exact .inl ⟨rfl, rfl⟩)
    | (injection h with h1 h2; subst h1 h2; exact .inr ⟨rfl, rfl⟩)
    | cases h
theorem esc_fin {t r : List UInt8} (h : esc t = .fin r) : False := by
  unfold esc esc1 esc2 at h
  repeat' split at h
  all_goals cases h
theorem escape_emit {t b r : List UInt8} (hs : t.length ≤ 4398046511104) (h : esc t = .emit b r) : ∃ n : Nat, r = t.drop n ∧ 2 ≤ n ∧ n ≤ t.length ∧
    ∀ w, Calls Tryz.prog 149 #[.string ⟨t.toArray⟩] w fun x w' => x = .returned (.tuple #[.int .i64 n, .string ⟨b.toArray⟩, .int .i64 0]) ∧ ∃ k, w' = w.drewN k := by
  obtain ⟨n, hn, h2, hl⟩ := esc_drop h
  refine ⟨n, hn, h2, hl, fun w => (escape_any t hs w).mono ?_⟩
  intro x w' hp
  unfold EscPost at hp
  rw [h] at hp
  obtain ⟨n', k, rfl, hn', h2', hl', hw⟩ := hp
  have : n' = n := by
    have e := congrArg List.length (hn.symm.trans hn')
    rw [List.length_drop, List.length_drop] at e; omega
  subst this
  exact ⟨rfl, k, hw⟩
theorem escape_err {t r : List UInt8} {no : Nat} (hs : t.length ≤ 4398046511104) (h : esc t = .err no r) (w : World) :
    Calls Tryz.prog 149 #[.string ⟨t.toArray⟩] w fun x w' => x = .returned (.tuple #[.int .i64 0, .string ⟨#[]⟩, .int .i64 no]) ∧ ∃ k, w' = w.drewN k := by
  refine (escape_any t hs w).mono ?_
  intro x w' hp
  unfold EscPost at hp
  rw [h] at hp
  obtain ⟨k, rfl, hw⟩ := hp
  exact ⟨rfl, k, hw⟩
/-- What text leaves. -/
def TxPost (rb : Nat) (s : List UInt8) (O : TO) (w : World) (x : Ending) (w' : World) : Prop :=
  match O with
  | .ok t r => ∃ q, x = .returned (.tuple #[.string ⟨t.toArray⟩, .nilIface]) ∧ q ≤ s.length ∧ r = s.drop q ∧ Rdr w' rb s q ∧ Kp w.heap.size (· = rb) w w'
  | .err no r => ∃ q a : Nat, x = .returned (.tuple #[.string ⟨#[]⟩, faultV no a]) ∧ a + r.length = s.length ∧ q ≤ s.length ∧ Rdr w' rb s q ∧ Kp w.heap.size (· = rb) w w'
-- <
set_option maxHeartbeats 8000000 in
set_option maxRecDepth 100000 in
theorem text_any (s : List UInt8) (hs : s.length ≤ 4398046511104) (p rb : Nat) (hp : p < s.length) (w : World) (h : Rdr w rb s p) :
    Calls Tryz.prog 112 #[.pointer (some ⟨rb, 0, none⟩)] w (TxPost rb s (txt (s.drop (p + 1))) w) := by
  obtain ⟨O, hO⟩ : ∃ O, O = txt (s.drop (p + 1)) := ⟨_, rfl⟩
  rw [← hO]
  have hrl := Blk.lt h
  have HRL : Hid (rb < w.heap.size) := Lib.hid hrl
  have hrne : ¬ rb = w.heap.size := by omega
  have hrne2 : ¬ w.heap.size = rb := by omega
  have HR0 : Hid (Rdr ((w.setCell ⟨rb, 1, none⟩ (.int .i64 ((p : Int) + 1))).alloc (.cells #[.pointer none, .slice none 0 0] 92)) rb s (p + 1)) := Lib.hid (Blk.alloc (Rdr.to h (p + 1) _ (by omega)) _)
  have HB0 : Hid (Bd w.heap.size [] ((w.setCell ⟨rb, 1, none⟩ (.int .i64 ((p : Int) + 1))).alloc (.cells #[.pointer none, .slice none 0 0] 92))) := Lib.hid (by simpa using Bd.fresh (w.setCell ⟨rb, 1, none⟩ (.int .i64 ((p : Int) + 1))))
  have HK0 : Hid (Kp w.heap.size (· = rb) w ((w.setCell ⟨rb, 1, none⟩ (.int .i64 ((p : Int) + 1))).alloc (.cells #[.pointer none, .slice none 0 0] 92))) := Lib.hid (((Kp.refl _ _ _).rdr _).alloc (by simp) _)
  have c1 := Rdr.c1 h
  have f1 := Blk.frozen h 1
  have HO := Lib.hid hO
  obtain ⟨bb, hbb⟩ : ∃ bb, bb = w.heap.size := ⟨_, rfl⟩
  clear h hO
  go_enter Tryz.func112, Tryz.ntmps112
  go_wp2_with fail
  generalize (w.setCell ⟨rb, 1, none⟩ (.int .i64 ((p : Int) + 1))).alloc (.cells #[.pointer none, .slice none 0 0] 92) = w0 at HR0 HB0 HK0 ⊢
  clear c1 f1
  rw [← hbb] at HB0 hrne hrne2 hrl ⊢
  have HBB := Lib.hid hbb
  clear hbb
  go_loopg [5, 6, 7, 8] (s.length + 1) (fun gk _ _ _ _ wr => ∃ (q : Nat) (l : List UInt8), p < q ∧ q ≤ s.length ∧ s.length - q < gk ∧ l.length ≤ q ∧ Hid (O = (txt (s.drop q)).pre l) ∧ Hid (Bd bb l wr) ∧ Hid (Rdr wr rb s q) ∧ Hid (Kp w.heap.size (· = rb) w wr))
  case atStart => exact ⟨p + 1, [], by omega, by omega, by omega, by simp, Lib.hid (by rw [HO.out, TO.pre_nil]), HB0, HR0, HK0⟩
  case round =>
    clear HO HB0 HR0 HK0
    obtain ⟨q, l, hpq, hq, hgk, hlq, HO, HB, HR, HK⟩ := hrel
    have HT := Lib.hid (txt_eq (s.drop q))
    have c0 := HR.out.c0
    have c1 := HR.out.c1
    by_cases hlt : q < s.length
    · have hidx := run_index_list Tryz.underlying9 s q hlt
      have HD := Lib.hid (drop_at hlt)
      generalize s.getD q 0 = c at hidx HD
      go_wp2_with fail
      go_quiet (fail)
      have HR1 : Hid (Rdr (wr.drewN nq) rb s q) := Lib.hid HR.out
      have HK1 := Lib.hid (HK.out.drewN nq)
      have HB1 := Lib.hid (Bd.drewN HB.out nq)
      clear c0 c1
      generalize wr.drewN nq = w1 at HR1 HK1 HB1 ⊢
      have c0 := HR1.out.c0
      have c1 := HR1.out.c1
      go_wp2_with fail
      go_quiet (fail)
      have HR2 : Hid (Rdr (w1.drewN nq) rb s q) := Lib.hid HR1.out
      have HK2 := Lib.hid (HK1.out.drewN nq)
      have HB2 := Lib.hid (Bd.drewN HB1.out nq)
      clear c0 c1 HR HK HB HR1 HK1 HB1
      generalize w1.drewN nq = w2 at HR2 HK2 HB2 ⊢
      have c0 := HR2.out.c0
      have c1 := HR2.out.c1
      have f1 := Blk.frozen HR2.out 1
      by_cases h34 : c = 34
      · have q1 : ((c.toNat : Int) == 34) = true := b8t h34
        have HP : Hid (O = .ok l (s.drop (q + 1))) := Lib.hid (by
          have h1 := HT.out
          rw [HD.out, h34, tstep_cons, if_pos rfl] at h1
          rw [HO.out, HD.out, h34, h1]
          simp [TO.pre])
        have HR3 := Lib.hid (HR2.out.to (q + 1) ((q : Int) + 1) (by omega))
        have HB3 := Lib.hid (Bd.setCell HB2.out (p := ⟨rb, 1, none⟩) hrl (.int .i64 ((q : Int) + 1)))
        have HK3 := Lib.hid (HK2.out.rdr (.int .i64 ((q : Int) + 1)))
        have HS := Lib.hid (string_b _ _ _ HB3.out)
        clear h34 HT HD
        go_wp2_with fail
        refine HS.out.mono ?_
        rintro x w4 ⟨rfl, _, hk⟩
        have HR4 : Hid (Rdr w4 rb s (q + 1)) := Lib.hid (HR3.out.below hk.below hrl)
        have HK4 := Lib.hid (HK3.out.trans (Kp.of_below (hk.below.mono (by have := HBB.out; omega))))
        clear hk
        go_wp2
        go_ret2
        rw [HP.out]
        exact ⟨q + 1, rfl, by omega, rfl, HR4.out, HK4.out⟩
      · have q1 : ((c.toNat : Int) == 34) = false := b8f h34
        by_cases h32 : c.toNat < 32
        · have q2 : ((c.toNat : Int) < 32) = True := eq_true (by omega)
          have HP : Hid (O = .err 4 (s.drop q)) := Lib.hid (by
            have h1 := HT.out
            rw [HD.out, tstep_cons, if_neg h34, if_pos h32] at h1
            rw [HO.out, HD.out, h1]
            rfl)
          have HF := Lib.hid (fault_any 4 q)
          unfold faultV at HF
          clear h34 h32 HT HD
          go_wp2_with fail
          refine (HF.out _).mono ?_
          rintro x w3 ⟨rfl, hb2⟩
          have HR3 : Hid (Rdr w3 rb s q) := Lib.hid (HR2.out.below hb2 HR2.out.lt)
          have HK3 := Lib.hid (HK2.out.step hb2 HK2.out.size)
          clear hb2 c1
          go_wp2
          go_ret2
          rw [HP.out]
          exact ⟨q, q, rfl, by rw [List.length_drop]; omega, hq, HR3.out, HK3.out⟩
        · have q2 : ((c.toNat : Int) < 32) = False := eq_false (by omega)
          by_cases h92 : c = 92
          · have q3 : ((c.toNat : Int) == 92) = true := b8t h92
            have hsl := fun wx => run_slice_from_list Tryz.underlying9 s .i64 (q : Int) q rfl hq wx
            have HT1 : Hid (tstep (s.drop q) = esc (s.drop q)) := Lib.hid (by rw [HD.out, tstep_cons, if_neg h34, if_neg h32, if_pos h92])
            have hlen : (s.drop q).length ≤ 4398046511104 := by rw [List.length_drop]; omega
            clear h34 h32 HD h92
            cases he : esc (s.drop q) with
            | fin r => exact (esc_fin he).elim
            | err no r =>
              have HE := Lib.hid (escape_err hlen he)
              have HP : Hid (O = .err no r) := Lib.hid (by
                have h1 := HT.out
                rw [HT1.out, he] at h1
                rw [HO.out, h1]
                rfl)
              rcases esc_err he with ⟨rfl, rfl⟩ | ⟨rfl, rfl⟩
              · have HF := Lib.hid (fault_any 2 s.length)
                unfold faultV at HF
                clear he HT HT1
                generalize s.drop q = t at hsl HE
                go_wp2_with fail
                go_quiet (exact Calls.quiet_of (HE.out _))
                have HR3 : Hid (Rdr (w2.drewN nq) rb s q) := Lib.hid HR2.out
                have HK3 := Lib.hid (HK2.out.drewN nq)
                clear c0 c1 f1
                generalize w2.drewN nq = w3 at HR3 HK3 ⊢
                have c0 := HR3.out.c0
                go_wp2_with fail
                refine (HF.out _).mono ?_
                rintro x w4 ⟨rfl, hb2⟩
                have HR4 : Hid (Rdr w4 rb s q) := Lib.hid (HR3.out.below hb2 HR3.out.lt)
                have HK4 := Lib.hid (HK3.out.step hb2 HK3.out.size)
                clear hb2 c0
                go_wp2
                go_ret2
                rw [HP.out]
                exact ⟨q, s.length, rfl, by simp, hq, HR4.out, HK4.out⟩
              · have HF := Lib.hid (fault_any 4 q)
                unfold faultV at HF
                have HL : Hid (q + (s.drop q).length = s.length) := Lib.hid (by rw [List.length_drop]; omega)
                clear he HT HT1
                generalize s.drop q = t at hsl HE HP HL
                go_wp2_with fail
                go_quiet (exact Calls.quiet_of (HE.out _))
                have HR3 : Hid (Rdr (w2.drewN nq) rb s q) := Lib.hid HR2.out
                have HK3 := Lib.hid (HK2.out.drewN nq)
                clear c0 c1 f1
                generalize w2.drewN nq = w3 at HR3 HK3 ⊢
                have c1 := HR3.out.c1
                go_wp2_with fail
                refine (HF.out _).mono ?_
                rintro x w4 ⟨rfl, hb2⟩
                have HR4 : Hid (Rdr w4 rb s q) := Lib.hid (HR3.out.below hb2 HR3.out.lt)
                have HK4 := Lib.hid (HK3.out.step hb2 HK3.out.size)
                clear hb2 c1
                go_wp2
                go_ret2
                rw [HP.out]
                exact ⟨q, q, rfl, HL.out, hq, HR4.out, HK4.out⟩
            | emit b r =>
              obtain ⟨n, hr, hn2, hnl, hE⟩ := escape_emit hlen he
              rw [List.length_drop] at hnl
              have HE := Lib.hid hE
              have hbl := (tstep_emit (HT1.out.trans he)).1
              have hrl2 : r.length = s.length - q - n := by rw [hr, List.length_drop, List.length_drop]
              rw [List.length_drop] at hbl
              have hb1 : b.length ≤ n := by omega
              have HP : Hid (O = (txt (s.drop (q + n))).pre (l ++ b)) := Lib.hid (by
                have h1 := HT.out
                rw [HT1.out, he] at h1
                rw [HO.out, h1, TO.pre_pre, hr, List.drop_drop])
              clear he HT HT1 hE hr hbl hrl2 hlen
              generalize s.drop q = t at hsl HE
              go_wp2_with fail
              go_quiet (exact Calls.quiet_of (HE.out _))
              have HR3 : Hid (Rdr (w2.drewN nq) rb s q) := Lib.hid HR2.out
              have HK3 := Lib.hid (HK2.out.drewN nq)
              have HB3 := Lib.hid (Bd.drewN HB2.out nq)
              clear c0 c1 f1
              generalize w2.drewN nq = w3 at HR3 HK3 HB3 ⊢
              have HW := Lib.hid (writeString_b bb l ⟨b.toArray⟩ w3 HB3.out (by simp [ByteArray.size]; omega))
              go_wp2_with fail
              refine HW.out.mono ?_
              rintro x w4 ⟨rfl, h1, h2⟩
              have HR4 : Hid (Rdr w4 rb s q) := Lib.hid (HR3.out.below h2.below hrl)
              have HB4 : Hid (Bd bb (l ++ b) w4) := Lib.hid h1
              have HK4 := Lib.hid (HK3.out.trans (Kp.of_below (h2.below.mono (by have := HBB.out; omega))))
              clear h1 h2 HW
              have c1 := HR4.out.c1
              have f1 := Blk.frozen HR4.out 1
              go_wp2_with fail
              go_roundg (gk - 1)
              case measure => omega
              case rel => exact ⟨q + n, l ++ b, by omega, by omega, by omega, by rw [List.length_append]; omega, HP, Lib.hid (Bd.setCell HB4.out (p := ⟨rb, 1, none⟩) hrl _), Lib.hid (HR4.out.to (q + n) _ (by omega)), Lib.hid (HK4.out.rdr _)⟩
          · have q3 : ((c.toNat : Int) == 92) = false := b8f h92
            have HP : Hid (O = (txt (s.drop (q + 1))).pre (l ++ [c])) := Lib.hid (by
              have h1 := HT.out
              rw [HD.out, tstep_cons, if_neg h34, if_neg h32, if_neg h92] at h1
              rw [HO.out, HD.out, h1, TO.pre_pre])
            have HW := Lib.hid (writeByte_b bb l c w2 HB2.out (by omega))
            clear h34 h32 h92 HT HD
            go_wp2_with fail
            refine HW.out.mono ?_
            rintro x w4 ⟨rfl, h1, h2⟩
            have HR4 : Hid (Rdr w4 rb s q) := Lib.hid (HR2.out.below h2.below hrl)
            have HB4 : Hid (Bd bb (l ++ [c]) w4) := Lib.hid h1
            have HK4 := Lib.hid (HK2.out.trans (Kp.of_below (h2.below.mono (by have := HBB.out; omega))))
            clear h1 h2 HW c0 c1 f1
            have c1 := HR4.out.c1
            have f1 := Blk.frozen HR4.out 1
            go_wp2_with fail
            go_roundg (gk - 1)
            case measure => omega
            case rel => exact ⟨q + 1, l ++ [c], by omega, by omega, by omega, by rw [List.length_append]; simp; omega, HP, Lib.hid (Bd.setCell HB4.out (p := ⟨rb, 1, none⟩) hrl _), Lib.hid (HR4.out.to (q + 1) _ (by omega)), Lib.hid (HK4.out.rdr _)⟩
    · have HP : Hid (O = .err 2 []) := Lib.hid (by
        have h1 := HT.out
        rw [List.drop_eq_nil_of_le (by omega)] at h1
        rw [HO.out, List.drop_eq_nil_of_le (by omega), h1]
        rfl)
      have HF := Lib.hid (fault_any 2 s.length)
      unfold faultV at HF
      go_wp2_with fail
      go_quiet (fail)
      have HR1 : Hid (Rdr (wr.drewN nq) rb s q) := Lib.hid HR.out
      have HK1 := Lib.hid (HK.out.drewN nq)
      clear c0 c1 HR HK HB HT
      generalize wr.drewN nq = w1 at HR1 HK1 ⊢
      have c0 := HR1.out.c0
      go_wp2_with fail
      refine (HF.out _).mono ?_
      rintro x w4 ⟨rfl, hb2⟩
      have HR4 : Hid (Rdr w4 rb s q) := Lib.hid (HR1.out.below hb2 HR1.out.lt)
      have HK4 := Lib.hid (HK1.out.step hb2 HK1.out.size)
      clear hb2 c0
      go_wp2
      go_ret2
      rw [HP.out]
      exact ⟨q, s.length, rfl, by simp, hq, HR4.out, HK4.out⟩
-- >
end Js
end Go.Proofs.YtlfeddgpfaigkaaGreatDoor
