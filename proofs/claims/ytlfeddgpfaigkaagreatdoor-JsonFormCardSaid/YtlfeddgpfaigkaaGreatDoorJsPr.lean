/-
  The walk of package json's Print at this seat's translation: a value's form, or what is wrong with it.
-/
import Derived.Test.YtlfeddgpfaigkaaGreatDoorJsWr
import Derived.Test.YtlfeddgpfaigkaaGreatDoorJsD
namespace Go.Proofs.YtlfeddgpfaigkaaGreatDoor
open Go.RowKit
namespace Js
theorem ofs_any (n : Nat) : OfC n := by
  induction n using Nat.strongRecOn with
  | ind n ih => exact of_step n (all_step n ih)
theorem bd_row {b : Nat} {l : List UInt8} {w : World} (h : Bd b l w) : ∃ p A c, Blk w b 92 #[p, .slice A l.length c] := by
  have g : ∀ p, Lib.BuilderAtF 92 5 b b p (Lib.byteCells l) w → ∃ p A c, Blk w b 92 #[p, .slice A l.length c] := by
    rintro p ⟨_, v, hb, ⟨hl, ho⟩, _⟩
    rcases ho with ⟨rfl, h0⟩ | ⟨g, cap, cur, fz, rfl, _⟩
    · have : l.length = 0 := by simpa [Lib.byteCells] using h0
      exact ⟨p, none, 0, by rw [this]; exact hb⟩
    · have e : (Lib.byteCells l).length = l.length := by simp [Lib.byteCells]
      rw [e] at hb
      exact ⟨p, _, cap, hb⟩
  rcases h with h | h
  · exact g _ h
  · exact g _ h
theorem len_b (b : Nat) (l : List UInt8) (w : World) (h : Bd b l w) : Calls Tryz.prog 38 #[.pointer (some ⟨b, 0, none⟩)] w fun x w' => x = .returned (.int .i64 l.length) ∧ w = w' := by
  obtain ⟨p, A, c, hb⟩ := bd_row h
  have c1 := hb.cell 1
  have f1 := hb.frozen 1
  go_enter Tryz.func38, Tryz.ntmps38
  go_wp2
  go_ret
  exact ⟨rfl, rfl⟩
/-- What Print answers. -/
def PrPost (h : Hd) (k : F) (w : World) (x : Ending) (w' : World) : Prop :=
  Below w.heap.size w w' ∧ ((printed h k).2 = 0 ∧ x = .returned (.tuple #[.string ⟨(form h k).toArray⟩, .nilIface]) ∨ (printed h k).2 ≠ 0 ∧ x = .returned (.tuple #[.string .empty, errnoV (printed h k).2]))
theorem infoJ5 : (Tryz.prog.info? 25).map (·.size) = some 5 := by kernel_rfl
-- <
set_option maxHeartbeats 16000000 in
set_option maxRecDepth 100000 in
theorem print_any (h : Hd) (k : F) (iv kv : Value) (S : Nat → Prop) (w : World) (hok : Okh h) (hak : k.All Okh) (htv : TV encJ w S h k (jcells h iv kv)) (hS : ∀ b, S b → b < w.heap.size) (hst : St w) (hlen : wrongs 1 h k = 0 → (form h k).length ≤ 1099511627776) :
    Calls Tryz.prog 12 #[.agg #[.int .i64 h.kind, .int .i64 h.num, .string ⟨h.text.toArray⟩, iv, kv]] w (PrPost h k w) := by
  have hfit : k.All Fit := by
    have g : ∀ f : F, f.All Okh → f.All Fit := by
      intro f
      induction f with
      | nil => exact fun _ => trivial
      | cons h k r ih1 ih2 => exact fun e => ⟨e.1.1, ih1 e.2.1, ih2 e.2.2⟩
    exact g k hak
  obtain ⟨wz, hwz⟩ : ∃ wz, wz = w.alloc (.cells #[.int .i64 h.kind, .int .i64 h.num, .string ⟨h.text.toArray⟩, iv, kv] 25) := ⟨_, rfl⟩
  have HZ : Hid (Below w.heap.size w wz ∧ w.heap.size ≤ wz.heap.size) := Lib.hid (by rw [hwz]; exact ⟨(Below.refl _ _).alloc (Nat.le_refl _) _, by simp⟩)
  have HBX : Hid (wz.heap[w.heap.size]? = some (.cells #[.int .i64 h.kind, .int .i64 h.num, .string ⟨h.text.toArray⟩, iv, kv] 25)) := Lib.hid (by rw [hwz]; exact heap_alloc_new _ _)
  have HC : Hid (Calls Tryz.prog 36 #[.agg #[.int .i64 h.kind, .int .i64 h.num, .string ⟨h.text.toArray⟩, iv, kv], .int .i64 1] wz (OfPost 1 h k S wz)) := Lib.hid (ofs_any k.sz 1 h k iv kv S wz (Nat.le_refl _) (by decide) hok.1 hfit (htv.kept fun p hp => HZ.out.1.cell (hS _ hp)) (fun b hb => by have := hS b hb; have := HZ.out.2; omega) (hst.below HZ.out.1))
  have HST := Lib.hid hst
  have HS := Lib.hid hS
  have HOK := Lib.hid hok
  have HAK := Lib.hid hak
  have HLEN := Lib.hid hlen
  clear hok hak hfit htv hS hst hlen
  go_enter Tryz.func12, Tryz.ntmps12
  go_wp2_with fail
  rw [← hwz]
  clear hwz
  refine HC.out.mono ?_
  rintro x w1 (⟨hw0, u, S', rfl, htu, hS', hb1⟩ | ⟨hw0, u, rfl, hb1⟩)
  · obtain ⟨T0, y0, rfl⟩ := htu.iface
    have HW0 := Lib.hid hw0
    have HSS : Hid (∀ b, S' b → b < w1.heap.size) := Lib.hid (fun b hb => by
      rcases hS' b hb with h1 | h1
      · have := HS.out b h1; have := HZ.out.2; have := hb1.size; omega
      · exact h1.2)
    have HBW : Hid (Below w.heap.size w w1) := Lib.hid (HZ.out.1.trans (hb1.mono HZ.out.2))
    obtain ⟨w2, hw2⟩ : ∃ w2, w2 = w1.alloc (.cells #[.pointer none, .slice none 0 0] 92) := ⟨_, rfl⟩
    have HB2 : Hid (Below w1.heap.size w1 w2) := Lib.hid (by rw [hw2]; exact (Below.refl _ _).alloc (Nat.le_refl _) _)
    have HBD : Hid (Bd w1.heap.size [] w2) := Lib.hid (by rw [hw2]; exact Bd.fresh w1)
    have HF : Hid (form (trimH h) (trimK h k) = form h k) := Lib.hid (form_trim hw0)
    have hnb : 9 ≤ w1.heap.size := by have := HST.out.size; have := HBW.out.size; omega
    have HWR := Lib.hid (wr_any _ 1 (trimH h) (trimK h k) (.iface T0 y0) S' w1.heap.size [] w2 (Nat.le_refl _) (trimH_trim h) (trimK_trim h k) (by rw [wrongs_trim]; exact hw0) HOK.out.trim (All_trimK HAK.out) (htu.kept fun p hp => HB2.out.cell (HSS.out _ hp)) HSS.out hnb HBD.out ((HST.out.below HBW.out).below HB2.out) (by rw [HF.out]; simpa using HLEN.out hw0))
    rw [HF.out, List.nil_append] at HWR
    clear htu hS' hb1 hw0 HC
    go_wp2_with fail
    rw [← hw2]
    clear hw2
    refine HWR.out.mono ?_
    rintro x w3 ⟨rfl, hB3, hk3⟩
    have HB3 := Lib.hid hB3
    have HK3 : Hid (Below w.heap.size w w3) := Lib.hid (HBW.out.trans ((HB2.out.trans hk3.below).mono HBW.out.size))
    clear hB3 hk3 HWR
    have HLN := Lib.hid (len_b _ _ w3 HB3.out)
    go_wp2_with fail
    refine HLN.out.mono ?_
    rintro x w4 ⟨rfl, rfl⟩
    by_cases hl : 4194304 < (form h k).length
    · have hpos : ((4194304 : Int) < ((form h k).length : Int)) = True := eq_true (by omega)
      have HP : Hid ((printed h k).2 = 5) := Lib.hid (by unfold printed; rw [if_neg (by rw [HW0.out]; simp), if_pos hl])
      clear hl
      go_wp2
      go_ret2
      exact ⟨HK3.out, .inr ⟨by rw [HP.out]; decide, by rw [HP.out]; rfl⟩⟩
    · have hpos : ((4194304 : Int) < ((form h k).length : Int)) = False := eq_false (by omega)
      have HP : Hid ((printed h k).2 = 0) := Lib.hid (by unfold printed; rw [if_neg (by rw [HW0.out]; simp), if_neg hl])
      have HSG := Lib.hid (string_b _ _ w3 HB3.out)
      clear hl
      go_wp2_with fail
      refine HSG.out.mono ?_
      rintro x w5 ⟨rfl, _, hk5⟩
      have HK5 : Hid (Below w.heap.size w w5) := Lib.hid (HK3.out.trans (hk5.below.mono HBW.out.size))
      clear hk5 HSG
      go_wp2
      go_ret2
      exact ⟨HK5.out, .inl ⟨HP.out, rfl⟩⟩
  · have HP : Hid ((printed h k).2 = wrongs 1 h k) := Lib.hid (by unfold printed; rw [if_pos hw0])
    have HB1 : Hid (Below w.heap.size w w1) := Lib.hid (HZ.out.1.trans (hb1.mono HZ.out.2))
    have HW0 := Lib.hid hw0
    clear hb1 hw0
    unfold errnoV
    go_wp2
    go_ret2
    exact ⟨HB1.out, .inr ⟨by rw [HP.out]; exact HW0.out, by rw [HP.out]; rfl⟩⟩
-- >
end Js
end Go.Proofs.YtlfeddgpfaigkaaGreatDoor
