/-
  The walks of the closed law JsonKnown at this seat's translation: its helpers, what is refused, what is written, texts of the greatest length.
-/
import Derived.Test.YtlfeddgpfaigkaaGreatDoorJsFm
import Derived.Test.YtlfeddgpfaigkaaGreatDoorByt
import Derived.Deep.RegionHeld3
import Derived.Test.YtlfeddgpfaigkaaGreatDoorJsWk
import Derived.Test.YtlfeddgpfaigkaaGreatDoorJsBk
namespace Go.Proofs.YtlfeddgpfaigkaaGreatDoor
open Go.RowKit
namespace Js
/-- A text, and what is wrong with it, and where. -/
def fcells (l : List (List UInt8 × Nat × Nat)) : List Value := l.flatMap fun p => [.string ⟨p.1.toArray⟩, .int .i64 p.2.1, .int .i64 p.2.2]
def goodF (p : List UInt8 × Nat × Nat) : Bool := match parse p.1 with
  | .err no r => no == p.2.1 && r.length + p.2.2 == p.1.length && decide (1 ≤ p.2.1) && decide (p.2.1 ≤ 32)
  | .ok _ _ _ => false
theorem goodF_parse {p : List UInt8 × Nat × Nat} (h : goodF p = true) : ∃ r, parse p.1 = .err p.2.1 r ∧ r.length + p.2.2 = p.1.length ∧ 1 ≤ p.2.1 ∧ p.2.1 ≤ 32 := by
  unfold goodF at h
  cases hp : parse p.1 with
  | ok _ _ _ => rw [hp] at h; cases h
  | err no r =>
    rw [hp] at h
    simp only [Bool.and_eq_true, beq_iff_eq, decide_eq_true_iff] at h
    obtain ⟨⟨⟨rfl, h2⟩, h3⟩, h4⟩ := h
    exact ⟨r, rfl, h2, h3, h4⟩
theorem fcells_at : ∀ (l : List (List UInt8 × Nat × Nat)) (j : Nat) (p : List UInt8 × Nat × Nat), l[j]? = some p →
    (fcells l)[j * 3]? = some (.string ⟨p.1.toArray⟩) ∧ (fcells l)[j * 3 + 1]? = some (.int .i64 p.2.1) ∧ (fcells l)[j * 3 + 2]? = some (.int .i64 p.2.2) := by
  intro l
  induction l with
  | nil => intro j p h; cases h
  | cons q l ih =>
    intro j p h
    have e : fcells (q :: l) = .string ⟨q.1.toArray⟩ :: .int .i64 q.2.1 :: .int .i64 q.2.2 :: fcells l := rfl
    cases j with
    | zero =>
      simp only [List.getElem?_cons_zero, Option.some.injEq] at h
      subst h
      rw [e]
      exact ⟨rfl, rfl, rfl⟩
    | succ j =>
      rw [List.getElem?_cons_succ] at h
      have := ih j p h
      rw [e, show (j + 1) * 3 = j * 3 + 1 + 1 + 1 from by omega, show j * 3 + 1 + 1 + 1 + 1 = (j * 3 + 1) + 1 + 1 + 1 from by omega, show j * 3 + 1 + 1 + 1 + 2 = (j * 3 + 2) + 1 + 1 + 1 from by omega]
      simpa only [List.getElem?_cons_succ] using this
/-- The list's cells. -/
def FRow (w : World) (g : Nat) (l : List (List UInt8 × Nat × Nat)) : Prop := g < w.heap.size ∧ ∀ j v, (fcells l)[j]? = some v → w.cell? ⟨g, j, none⟩ = some v
theorem FRow.at_ {w : World} {g : Nat} {l : List (List UInt8 × Nat × Nat)} (h : FRow w g l) {j : Nat} {p : List UInt8 × Nat × Nat} (hp : l[j]? = some p) :
    w.cell? ⟨g, j * 3, none⟩ = some (.string ⟨p.1.toArray⟩) ∧ w.cell? ⟨g, j * 3 + 1, none⟩ = some (.int .i64 p.2.1) ∧ w.cell? ⟨g, j * 3 + 2, none⟩ = some (.int .i64 p.2.2) := by
  obtain ⟨h1, h2, h3⟩ := fcells_at l j p hp
  exact ⟨h.2 _ _ h1, h.2 _ _ h2, h.2 _ _ h3⟩
theorem FRow.below {w w' : World} {g : Nat} {l : List (List UInt8 × Nat × Nat)} (h : FRow w g l) (hb : Below w.heap.size w w') : FRow w' g l :=
  ⟨by have := hb.size; have := h.1; omega, fun j v hv => (hb.cell h.1).trans (h.2 j v hv)⟩
theorem FRow.of_block {w : World} {g : Nat} {l : List (List UInt8 × Nat × Nat)} {cs : Array Value} {t : TypeId} (h : Blk w g t cs) (hc : cs.toList = fcells l) : FRow w g l :=
  ⟨h.lt, fun j v hv => by rw [h.cell j]; rw [← hc] at hv; simpa using hv⟩
set_option maxHeartbeats 1600000 in
set_option maxRecDepth 100000 in
theorem refused_any (l : List (List UInt8 × Nat × Nat)) (g c : Nat) (w : World) (hl : l.length ≤ 1000) (hg : ∀ p ∈ l, goodF p = true) (hr : FRow w g l) (hst : St w) :
    Calls Tryz.prog 26 #[.slice (some ⟨g, 0, none⟩) l.length c] w fun x w' => x = .returned (.bool true) ∧ Below w.heap.size w w' := by
  have HL := Lib.hid hl
  have HGD := Lib.hid hg
  have HRW := Lib.hid hr
  have HST := Lib.hid hst
  clear hl hg hr hst
  go_enter Tryz.func26, Tryz.ntmps26
  go_wp2_with fail
  go_loopw [3] (fun i wr => ∃ j : Nat, j ≤ l.length ∧ i = .int .i64 j ∧ Hid (Below w.heap.size w wr)) (fun i _ => l.length - (intOf i).toNat)
  case atStart => exact ⟨0, by omega, rfl, Lib.hid (Below.refl _ _)⟩
  case round =>
    obtain ⟨j, hj, rfl, HB⟩ := hrel
    have hl := HL.out
    by_cases hlt : j < l.length
    · obtain ⟨p, hp⟩ : ∃ p, l[j]? = some p := ⟨_, List.getElem?_eq_getElem hlt⟩
      obtain ⟨r, hpe, hrl, hn1, hn2⟩ := goodF_parse (HGD.out p (List.mem_of_getElem? hp))
      have HRR := Lib.hid (HRW.out.below HB.out)
      obtain ⟨r0, r1, r2⟩ := HRR.out.at_ hp
      have HPE := Lib.hid hpe
      have HPA := Lib.hid (parse_any p.1 wr (HST.out.below HB.out))
      have HRL := Lib.hid (And.intro hrl (And.intro hn1 hn2))
      clear r1 r2 hpe hrl hn1 hn2
      go_wp2_with fail
      refine HPA.out.mono ?_
      rintro x w3 hx
      unfold PaPost at hx
      rw [HPE.out] at hx
      obtain ⟨a, ha, rfl, hb3⟩ := hx
      obtain rfl : a = p.2.2 := by have := HRL.out.1; omega
      have HB3 : Hid (Below w.heap.size w w3) := Lib.hid (HB.out.trans (hb3.mono HB.out.size))
      clear ha hb3 HPA HPE r0
      unfold zeroJ faultV
      obtain ⟨w4, hw4⟩ : ∃ w4, w4 = w3.alloc (.cells #[.int .i64 0, .int .i64 0, .string ByteArray.empty, .slice none 0 0, .slice none 0 0] 25) := ⟨_, rfl⟩
      have HB4 : Hid (Below w.heap.size w w4) := Lib.hid (by rw [hw4]; exact HB3.out.alloc HB3.out.size _)
      go_upto_region 5 with fail
      rw [← hw4]
      clear hw4 HB3
      have HR4 := Lib.hid (HRW.out.below HB4.out)
      obtain ⟨r0, r1, r2⟩ := HR4.out.at_ hp
      clear r0
      have HBD : Hid (Below w.heap.size w w4.drew) := Lib.hid (below_drewN HB4.out 1)
      have HAT : Hid (Calls Tryz.prog 18 #[.iface 98 (.agg #[.int .i64 p.2.1, .int .i64 0, .int .i64 p.2.2]), .int .i64 p.2.1, .int .i64 0, .int .i64 p.2.2] w4.drew fun e w' => e = .returned (.bool true) ∧ Below w4.heap.size w4.drew w') := Lib.hid (Err.at_fault p.2.1 0 p.2.2 HRL.out.2.1 HRL.out.2.2 w4.drew (HST.out.below HBD.out).err)
      have hgl : g < w4.heap.size := HR4.out.1
      go_region_held3 (fun wx => wx.cell? ⟨g, j * 3 + 1, none⟩ = some (.int .i64 p.2.1) ∧ wx.cell? ⟨g, j * 3 + 2, none⟩ = some (.int .i64 p.2.2)) (go_keep) ((go_at_call 18; refine HAT.out.mono ?_; rintro x w5 ⟨rfl, hb5⟩; have d1 := (hb5.cell (p := ⟨g, j * 3 + 1, none⟩) hgl).trans r1; have d2 := (hb5.cell (p := ⟨g, j * 3 + 2, none⟩) hgl).trans r2; have HB5 : Hid (Below w.heap.size w w5) := Lib.hid (HBD.out.trans (hb5.mono HB4.out.size)); clear hb5))
      clear r1 r2 d1 d2 HAT HBD
      go_wp2_with fail
      refine ⟨⟨j + 1, by omega, by push_cast; rfl, HB5⟩, ?_⟩
      show l.length - ((j : Int) + 1).toNat < l.length - ((j : Int)).toNat
      omega
    · go_wp2_with fail
      go_ret
      exact ⟨rfl, HB.out⟩
theorem infoByteK : (Tryz.prog.info? 5).map (fun i => (i.zero, i.size, i.bytes)) = some (some (.int .u8 0), 1, 1) := by kernel_rfl
set_option maxHeartbeats 1600000 in
set_option maxRecDepth 100000 in
theorem many_any (b : UInt8) (n : Nat) (w : World) (hn : n ≤ 8388608) :
    Calls Tryz.prog 27 #[.string ⟨#[b]⟩, .int .i64 n] w fun x w' => x = .returned (.string ⟨(List.replicate n b).toArray⟩) ∧ Below w.heap.size w w' := by
  obtain ⟨i0, hi0, hz0, hz1, hz2⟩ := info_parts infoByteK
  go_enter Tryz.func27, Tryz.ntmps27
  go_wp2_with fail
  go_loopw [5, 6] (fun v i wr => ∃ j : Nat, j ≤ n ∧ i = .int .i64 j ∧ Hid (wr.ownsRow w.heap.size 5 1 v j (Lib.byteCells (List.replicate j b))) ∧ Hid (Below w.heap.size w wr)) (fun _ i _ => n - (intOf i).toNat)
  case atStart => exact ⟨0, by omega, rfl, Lib.hid (World.ownsRow_nil _ _ _ _), Lib.hid (Below.refl _ _)⟩
  case round =>
    obtain ⟨j, hj, rfl, HO, HB⟩ := hrel
    obtain ⟨A, c, hv, hr⟩ := own_readsN HO.out
    subst hv
    by_cases hlt : j < n
    · clear hr
      go_wp2_with (at_builtin; refine Lib.wpList_append_own_string _ rfl _ _ 74 9 rfl w.heap.size 5 i0 Tryz.underlying74 Tryz.underlying9 hi0 hz0 hz1 hz2 _ _ _ rfl HO.out ⟨#[b]⟩ rfl (by simp [maxLen, ByteArray.size]; omega) (by simp [ByteArray.size]; omega) HB.out.size ?_; intro v6 w6 h1 h2 _; have HB6 : Hid (Below w.heap.size w w6) := Lib.hid (HB.out.grown h2 HB.out.size (fun j hj => (World.ownsRow.lt HO.out j hj).1)); have HO6 : Hid (w6.ownsRow w.heap.size 5 1 v6 (j + 1) (Lib.byteCells (List.replicate (j + 1) b))) := Lib.hid (by rw [List.replicate_succ', byteCells_app]; exact h1); clear h1 h2)
      refine ⟨⟨j + 1, by omega, by push_cast; rfl, HO6, HB6⟩, ?_⟩
      show n - ((j : Int) + 1).toNat < n - ((j : Int)).toNat
      omega
    · obtain rfl : j = n := by omega
      have hcv := run_convert_reads (P := Tryz.prog) Tryz.underlying74 Tryz.underlying5 Tryz.underlying9 c hr
      clear hr
      go_wp2_with fail
      go_ret
      exact ⟨rfl, HB.out⟩
def deepH : Hd := ⟨5, 0, [], []⟩
def deepK : Nat → F
  | 0 => .nil
  | n + 1 => .cons deepH (deepK n) .nil
theorem sizeJ : (Tryz.prog.info? 25).map (fun i => i.size) = some 5 := by kernel_rfl
theorem Blk_row {w : World} {g : Nat} {t : TypeId} {cs cs' : Array Value} (h : Blk w g t cs) : Blk (w.setRow g cs') g t cs' := by
  have hh := h
  unfold Blk at h ⊢
  rw [setRow_heap w g cs cs' t _ h]
theorem Blk_row_far {w : World} {g k : Nat} {t : TypeId} {cs cs' : Array Value} (h : Blk w k t cs) (hk : k ≠ g) : Blk (w.setRow g cs') k t cs := by
  unfold Blk at h ⊢
  rw [setRow_other w g k cs' hk]
  exact h
theorem below_row {B g : Nat} {cs : Array Value} {a w : World} (h : Below B a w) (hg : B ≤ g) : Below B a (w.setRow g cs) :=
  ⟨h.os, h.tape, h.output, by have := h.size; simpa using this, fun k hk => (setRow_other w g k cs (by omega)).trans (h.block k hk)⟩
set_option maxHeartbeats 1600000 in
set_option maxRecDepth 100000 in
theorem deep_any (n : Nat) (w : World) (hn : n ≤ 1000) :
    Calls Tryz.prog 82 #[.int .i64 (n + 1 : Nat)] w fun x w' => ∃ A c, x = .returned (.agg #[.int .i64 5, .int .i64 0, .string ⟨#[]⟩, .slice A (deepK n).len c, .slice none 0 0]) ∧ Below w.heap.size w w' ∧ TV encJ w' (· < w'.heap.size) deepH (deepK n) (jcells deepH (.slice A (deepK n).len c) (.slice none 0 0)) := by
  have hsz := sizeJ
  go_enter Tryz.func82, Tryz.ntmps82
  go_wp2_with fail
  go_loopw [4] (fun i wr => ∃ j : Nat, j ≤ n ∧ i = .int .i64 (j + 1 : Nat) ∧ Hid (Below w.heap.size w wr) ∧ ∃ A c, Hid (Blk wr w.heap.size 25 #[.int .i64 0, .int .i64 0, .string ByteArray.empty, .slice none 0 0, .slice none 0 0]) ∧ Hid (Blk wr (w.heap.size + 1) 25 #[.int .i64 5, .int .i64 0, .string ByteArray.empty, .slice A (deepK j).len c, .slice none 0 0]) ∧ Hid (TV encJ wr (fun b => w.heap.size + 2 ≤ b ∧ b < wr.heap.size) deepH (deepK j) (jcells deepH (.slice A (deepK j).len c) (.slice none 0 0)))) (fun i _ => n + 1 - (intOf i).toNat)
  case atStart =>
    exact ⟨0, by omega, rfl, Lib.hid (((Below.refl _ _).alloc (Nat.le_refl _) _).alloc (by simp) _), none, 0, Lib.hid ((Blk.new _ _ _).alloc _), Lib.hid (by have := Blk.new (w.alloc (.cells #[.int .i64 0, .int .i64 0, .string ByteArray.empty, .slice none 0 0, .slice none 0 0] 25)) 25 #[.int .i64 5, .int .i64 0, .string ByteArray.empty, .slice none 0 0, .slice none 0 0]; rw [World.size_alloc] at this; exact this), Lib.hid ⟨none, 0, none, 0, [], rfl, by decide, ⟨by decide, fun h => by cases h⟩, RdS.none_, rfl, RdS.none_⟩⟩
  case round =>
    obtain ⟨j, hj, rfl, HB, A, c, H0, H1, HT⟩ := hrel
    have x0 := H1.out.cell 0
    have x1 := H1.out.cell 1
    have x2 := H1.out.cell 2
    have x3 := H1.out.cell 3
    have x4 := H1.out.cell 4
    by_cases hlt : j < n
    · have HA := H1.out.alloc (.cells #[.int .i64 5, .int .i64 0, .string ByteArray.empty, .slice A (deepK j).len c, .slice none 0 0] 25)
      go_wp2_with (refine wpList_store_row rfl 25 _ _ rfl _ _ rfl rfl 25 _ HA (by simpa using hsz) (by simp) (by simp [Value.oneCell']) ?_)
      obtain ⟨w2, hw2⟩ : ∃ w2, w2 = wr.alloc (.cells #[.int .i64 5, .int .i64 0, .string ByteArray.empty, .slice A (deepK j).len c, .slice none 0 0] 25) := ⟨_, rfl⟩
      have hs2 : w2.heap.size = wr.heap.size + 1 := by rw [hw2]; simp
      have HN2 : Hid (Blk w2 wr.heap.size 25 #[.int .i64 5, .int .i64 0, .string ByteArray.empty, .slice A (deepK j).len c, .slice none 0 0]) := Lib.hid (by rw [hw2]; exact Blk.new _ _ _)
      have HB2 : Hid (Below w.heap.size w w2) := Lib.hid (by rw [hw2]; exact HB.out.alloc HB.out.size _)
      have H02 : Hid (Blk w2 w.heap.size 25 _) := Lib.hid (by rw [hw2]; exact H0.out.alloc _)
      have H12 : Hid (Blk w2 (w.heap.size + 1) 25 _) := Lib.hid (by rw [hw2]; exact HA)
      have hlt1 := H1.out.lt
      have HT2 : Hid (TV encJ w2 (fun b => w.heap.size + 2 ≤ b ∧ b < wr.heap.size) deepH (deepK j) (jcells deepH (.slice A (deepK j).len c) (.slice none 0 0))) := Lib.hid (by rw [hw2]; exact HT.out.kept fun p hp => World.cell?_alloc_lt _ _ _ hp.2)
      rw [← hw2]
      refine ⟨⟨_, _, _, _, _, _, _, _, _, ⟨j + 1, by omega, by push_cast; rfl, ?_⟩, rfl⟩, ?_⟩
      · show Hid _ ∧ _
        refine ⟨Lib.hid (below_row HB2.out (by omega)), some ⟨wr.heap.size, 0, none⟩, 1, Lib.hid (Blk_row_far H02.out (by omega)), Lib.hid (Blk_row H12.out), Lib.hid ?_⟩
        refine ⟨_, _, none, 0, jcells deepH (.slice A (deepK j).len c) (.slice none 0 0), rfl, (by show (1 : Nat) ≤ _; omega), ⟨by decide, fun h => by cases h⟩, ?_, ?_, RdS.none_⟩
        · exact ⟨rfl, fun _ => ⟨⟨wr.heap.size, 0, none⟩, rfl, ⟨(by show w.heap.size + 2 ≤ wr.heap.size; omega), by simp [hs2]⟩, fun q v hv => by
            have hq : (w2.setRow (w.heap.size + 1) #[.int .i64 5, .int .i64 0, .string { data := #[] }, .slice (some ⟨wr.heap.size, 0, none⟩) 1 1, .slice none 0 0]).cell? ⟨wr.heap.size, q, none⟩ = w2.cell? ⟨wr.heap.size, q, none⟩ := cell_setRow_other _ _ _ _ (by show wr.heap.size ≠ _; omega)
            have : (⟨wr.heap.size, 0, none⟩ : Addr).add q = ⟨wr.heap.size, q, none⟩ := by unfold Addr.add; split <;> simp_all
            rw [this, hq, HN2.out.cell q]
            have hv2 : (#[.int .i64 5, .int .i64 0, .string ByteArray.empty, .slice A (deepK j).len c, .slice none 0 0] : Array Value).toList[q]? = some v := hv
            rw [← hv2]; simp⟩⟩
        · refine ((HT2.out.kept fun p hp => cell_setRow_other _ _ _ _ (by omega)).more fun b hb => ⟨hb.1, by have := hb.2; simp [hs2]; omega⟩).tr
      · show n + 1 - (((j + 1 : Nat) : Int) + 1).toNat < n + 1 - (((j + 1 : Nat) : Int)).toNat
        omega
    · obtain rfl : j = n := by omega
      go_wp2_with (refine wpList_store_row rfl 25 _ _ rfl _ _ rfl rfl 25 _ H0.out (by simpa using hsz) (by simp) (by simp [Value.oneCell']) ?_)
      obtain ⟨w2, hw2⟩ : ∃ w2, w2 = wr.setRow w.heap.size #[.int .i64 5, .int .i64 0, .string ByteArray.empty, .slice A (deepK j).len c, .slice none 0 0] := ⟨_, rfl⟩
      have hs2 : w2.heap.size = wr.heap.size := by rw [hw2]; simp
      have HB2 : Hid (Below w.heap.size w w2) := Lib.hid (by rw [hw2]; exact below_row HB.out (Nat.le_refl _))
      have H02 : Hid (Blk w2 w.heap.size 25 _) := Lib.hid (by rw [hw2]; exact Blk_row H0.out)
      have HT2 : Hid (TV encJ w2 (· < w2.heap.size) deepH (deepK j) (jcells deepH (.slice A (deepK j).len c) (.slice none 0 0))) := Lib.hid (by rw [hs2, hw2]; exact (HT.out.kept fun p hp => cell_setRow_other _ _ _ _ (by omega)).more fun b hb => hb.2)
      rw [← hw2]
      clear hw2 x0 x1 x2 x3 x4
      (try simp only [Exit.inBlock, Exit.then])
      refine bodyPost_ret (results_cell_row rfl _ _ w.heap.size 25 _ (0, 0) _ rfl H02.out Tryz.underlying25 rfl (by simpa using hsz)) rfl ?_
      exact ⟨A, c, rfl, HB2.out, HT2.out⟩
end Js
end Go.Proofs.YtlfeddgpfaigkaaGreatDoor
namespace Go.Proofs.YtlfeddgpfaigkaaGreatDoor
open Go.RowKit
namespace Js
def refA (m : List UInt8) : List (List UInt8 × Nat × Nat) := [([], 2, 0), ([91, 49], 2, 2), ([91, 49, 44], 2, 3), ([123, 34, 97, 34], 2, 4), ([34, 97], 2, 2), ([34, 92, 117, 48, 48], 2, 5), ([32], 2, 1), ([91], 2, 1), ([123], 2, 1), ([123, 34, 97, 34, 58], 2, 5), ([34, 92], 2, 2), ([34, 92, 117, 100, 56, 51, 100], 2, 7), ([34, 92, 117, 100, 56, 51, 100, 92, 117], 2, 9), ([34, 92, 117, 100, 56, 51, 100, 92, 117, 100, 101], 2, 11), ([34, 92, 117, 100, 56, 51, 100, 92], 2, 8), ([34, 92, 117, 100, 56, 48, 48, 92, 117, 101], 2, 10), ([34, 92, 117, 100, 99], 2, 5), (m, 2, 32), (m ++ [32], 2, 33)]
def refB : List (List UInt8 × Nat × Nat) := [([48, 49], 4, 0), ([49, 46, 48], 4, 0), ([45, 48], 4, 0), ([45], 4, 0), ([57, 50, 50, 51, 51, 55, 50, 48, 51, 54, 56, 53, 52, 55, 55, 53, 56, 48, 56], 4, 0), ([45, 57, 50, 50, 51, 51, 55, 50, 48, 51, 54, 56, 53, 52, 55, 55, 53, 56, 48, 57], 4, 0), ([110, 117, 108], 4, 0), ([43, 49], 4, 0), ([49, 101, 50], 4, 0), ([57, 57, 57, 57, 57, 57, 57, 57, 57, 57, 57, 57, 57, 57, 57, 57, 57, 57, 57, 57, 57, 57, 57, 57, 57, 57], 4, 0), ([49, 56, 52, 52, 54, 55, 52, 52, 48, 55, 51, 55, 48, 57, 53, 53, 49, 54, 49, 54], 4, 0)]
def refC : List (List UInt8 × Nat × Nat) := [([91, 49, 44, 93], 4, 3), ([91, 49, 32, 50, 93], 4, 3), ([123, 97, 58, 49, 125], 4, 1), ([123, 34, 97, 34, 32, 49, 125], 4, 5), ([34, 92, 120, 34], 4, 1), ([34, 92, 117, 100, 56, 48, 48, 34], 4, 1), ([34, 92, 117, 100, 56, 48, 48, 92, 117, 48, 48, 52, 49, 34], 4, 1), ([34, 97, 10, 98, 34], 4, 2), ([34, 92, 117, 100, 99, 48, 48, 34], 4, 1), ([34, 92, 117, 100, 102, 102, 102, 34], 4, 1), ([34, 92, 117, 100, 56, 48, 48, 92, 117, 100, 56, 48, 48, 34], 4, 1), ([123, 34, 97, 34, 58, 49, 44, 125], 4, 7), ([34, 92, 117, 100, 56, 48, 48, 92, 117, 103], 4, 1), ([34, 92, 117, 100, 56, 48, 48, 92, 117, 101, 48, 48, 48], 4, 1), ([34, 92, 117, 48, 48, 103, 48], 4, 1), ([34, 31], 4, 1)]
def refD (m n o : List UInt8) : List (List UInt8 × Nat × Nat) := [([123, 34, 97, 34, 58, 49, 44, 34, 97, 34, 58], 11, 7), ([49, 32, 50], 3, 2), ([110, 117, 108, 108, 120], 3, 4), ([91, 93, 93], 3, 2), ([91, 255, 33], 6, 1), ([34, 237, 160, 128, 34], 6, 1), ([33, 192, 128], 6, 1), (m, 5, 32), (n ++ [33], 5, 32), (o ++ [33], 4, 31), ([123, 34, 92, 117, 48, 48, 54, 49, 34, 58, 49, 44, 34, 97, 34, 33], 11, 12)]
theorem all_good {l : List (List UInt8 × Nat × Nat)} (h : l.all goodF = true) : ∀ p ∈ l, goodF p = true := fun p hp => List.all_eq_true.1 h p hp
theorem refB_good : refB.all goodF = true := by decide +kernel
theorem refC_good : refC.all goodF = true := by decide +kernel
theorem refA_good : (refA (List.replicate 32 91)).all goodF = true := by decide +kernel
theorem refD_good : (refD (List.replicate 33 91) (List.replicate 32 91) (List.replicate 31 91)).all goodF = true := by decide +kernel
theorem deep_w1 : wrongs 1 deepH (deepK 31) = 0 := by decide +kernel
theorem deep_w2 : wrongs 1 deepH (deepK 32) = 5 := by decide +kernel
theorem deep_f : form deepH (deepK 31) = List.replicate 32 91 ++ List.replicate 32 93 := by decide +kernel
theorem kn_n : decI (-9223372036854775808) = [45, 57, 50, 50, 51, 51, 55, 50, 48, 51, 54, 56, 53, 52, 55, 55, 53, 56, 48, 56] := by decide +kernel
theorem kn_p1 : parse [34, 92, 117, 100, 56, 51, 100, 92, 117, 100, 101, 48, 48, 92, 117, 48, 48, 101, 57, 92, 47, 92, 98, 34] = .ok ⟨4, 0, [240, 159, 152, 128, 195, 169, 47, 8], []⟩ .nil [] := by decide +kernel
theorem kn_p2 : parse [91, 45, 57, 50, 50, 51, 51, 55, 50, 48, 51, 54, 56, 53, 52, 55, 55, 53, 56, 48, 56, 44, 57, 50, 50, 51, 51, 55, 50, 48, 51, 54, 56, 53, 52, 55, 55, 53, 56, 48, 55, 93] = .ok ⟨5, 0, [], []⟩ (.cons ⟨3, -9223372036854775808, [], []⟩ .nil (.cons ⟨3, 9223372036854775807, [], []⟩ .nil .nil)) [] := by decide +kernel
end Js
end Go.Proofs.YtlfeddgpfaigkaaGreatDoor
namespace Go.Proofs.YtlfeddgpfaigkaaGreatDoor
open Go.RowKit
namespace Js
def leaves : List Hd → F
  | [] => .nil
  | h :: r => .cons h .nil (leaves r)
def leafCells (l : List Hd) : List Value := l.flatMap fun h => jcells h (.slice none 0 0) (.slice none 0 0)
theorem leaves_len (l : List Hd) : (leaves l).len = l.length := by induction l <;> simp_all [leaves, F.len]
theorem tr_leaves {w : World} {S : Nat → Prop} : ∀ {l : List Hd}, (∀ h ∈ l, h.keys = []) → TR encJ w S (leaves l) (leafCells l)
  | [], _ => rfl
  | h :: r, hk => by
    have e := hk h (by simp)
    refine ⟨none, 0, none, 0, [], leafCells r, ?_, by decide, ⟨by rw [e]; decide, fun h => by cases h⟩, RdS.none_, rfl, ?_, tr_leaves fun x hx => hk x (by simp [hx])⟩
    · rw [e]; rfl
    · rw [e]; exact RdS.none_
theorem okh_leaves : ∀ {l : List Hd}, (∀ h ∈ l, Okh h) → (leaves l).All Okh
  | [], _ => trivial
  | h :: r, hk => ⟨hk h (by simp), trivial, okh_leaves fun x hx => hk x (by simp [hx])⟩
theorem print_flat (h : Hd) (l : List Hd) (A1 : Option Addr) (c1 : Nat) (A2 : Option Addr) (c2 : Nat) (w : World) (hok : Okh h) (hl : ∀ x ∈ l, Okh x) (hlk : ∀ x ∈ l, x.keys = []) (hln : l.length ≤ 1000) (hkn : h.keys.length ≤ 1000)
    (hI : RdS w (· < w.heap.size) 5 A1 l.length (leafCells l)) (hK : RdS w (· < w.heap.size) 1 A2 h.keys.length (tx h.keys)) (hst : St w) (hlen : wrongs 1 h (leaves l) = 0 → (form h (leaves l)).length ≤ 1099511627776) :
    Calls Tryz.prog 12 #[.agg #[.int .i64 h.kind, .int .i64 h.num, .string ⟨h.text.toArray⟩, .slice A1 l.length c1, .slice A2 h.keys.length c2]] w (PrPost h (leaves l) w) :=
  print_any h (leaves l) _ _ (· < w.heap.size) w hok (okh_leaves hl) ⟨A1, c1, A2, c2, leafCells l, by rw [leaves_len]; rfl, by rw [leaves_len]; omega, ⟨by omega, fun h => by cases h⟩, by rw [leaves_len]; exact hI, tr_leaves hlk, hK⟩ (fun _ hb => hb) hst hlen
theorem pr_bad {h : Hd} {k : F} {n : Nat} {w w' : World} {x : Ending} (hw : wrongs 1 h k = n + 1) (hx : PrPost h k w x w') : x = .returned (.tuple #[.string .empty, .iface 95 (.int .i64 (n + 1 : Nat))]) ∧ Below w.heap.size w w' := by
  obtain ⟨hb, hx⟩ := hx
  have e : (printed h k).2 = n + 1 := by unfold printed; rw [if_pos (by rw [hw]; simp)]; exact hw
  rw [e] at hx
  rcases hx with ⟨h0, _⟩ | ⟨_, h0⟩
  · cases h0
  · exact ⟨h0, hb⟩
theorem pr_good {h : Hd} {k : F} {s : List UInt8} {w w' : World} {x : Ending} (hw : wrongs 1 h k = 0) (hf : form h k = s) (hl : s.length ≤ 4194304) (hx : PrPost h k w x w') : x = .returned (.tuple #[.string ⟨s.toArray⟩, .nilIface]) ∧ Below w.heap.size w w' := by
  obtain ⟨hb, hx⟩ := hx
  have e : (printed h k).2 = 0 := by unfold printed; rw [if_neg (by rw [hw]; simp), hf, if_neg (by omega)]
  rw [e, hf] at hx
  rcases hx with ⟨_, h0⟩ | ⟨h0, _⟩
  · exact ⟨h0, hb⟩
  · exact absurd rfl h0
def k3 : Hd := ⟨7, 0, [], []⟩
def k4 : Hd := ⟨6, 0, [], [[97], [98]]⟩
def l4 : List Hd := [⟨9, 0, [], []⟩]
def k5 : Hd := ⟨6, 0, [], [[97], [97]]⟩
def l5 : List Hd := [⟨9, 0, [], []⟩, ⟨0, 0, [], []⟩]
def k6 : Hd := ⟨6, 0, [], [[97], [97], [255]]⟩
def l6 : List Hd := [⟨0, 0, [], []⟩, ⟨0, 0, [], []⟩, ⟨0, 0, [], []⟩]
def k7 : Hd := ⟨5, 0, [], []⟩
def l7 : List Hd := [⟨4, 0, [255], []⟩, ⟨-1, 0, [], []⟩]
def k8 : Hd := ⟨3, -9223372036854775808, [255], [[97]]⟩
def k9 : Hd := ⟨4, 0, [127, 31, 47, 195, 169, 92], []⟩
def f8 : List UInt8 := [45, 57, 50, 50, 51, 51, 55, 50, 48, 51, 54, 56, 53, 52, 55, 55, 53, 56, 48, 56]
def f9 : List UInt8 := [34, 127, 92, 117, 48, 48, 49, 102, 47, 195, 169, 92, 92, 34]
theorem kw3 : wrongs 1 k3 (leaves []) = 14 := by decide +kernel
theorem kw4 : wrongs 1 k4 (leaves l4) = 14 := by decide +kernel
theorem kw5 : wrongs 1 k5 (leaves l5) = 11 := by decide +kernel
theorem kw6 : wrongs 1 k6 (leaves l6) = 6 := by decide +kernel
theorem kw7 : wrongs 1 k7 (leaves l7) = 6 := by decide +kernel
theorem kw8 : wrongs 1 k8 (leaves []) = 0 := by decide +kernel
theorem kw9 : wrongs 1 k9 (leaves []) = 0 := by decide +kernel
theorem kf8 : form k8 (leaves []) = f8 := by decide +kernel
theorem kf9 : form k9 (leaves []) = f9 := by decide +kernel
instance (h : Hd) : Decidable (Okh h) := by unfold Okh Fit NumOk; infer_instance
theorem deep_ok : ∀ n, (deepK n).All Okh
  | 0 => trivial
  | n + 1 => ⟨by decide, deep_ok n, trivial⟩
theorem print_deep (n : Nat) (A : Option Addr) (c : Nat) (w : World) (htv : TV encJ w (· < w.heap.size) deepH (deepK n) (jcells deepH (.slice A (deepK n).len c) (.slice none 0 0))) (hst : St w) (hl : wrongs 1 deepH (deepK n) = 0 → (form deepH (deepK n)).length ≤ 1099511627776) :
    Calls Tryz.prog 12 #[.agg #[.int .i64 5, .int .i64 0, .string ⟨#[]⟩, .slice A (deepK n).len c, .slice none 0 0]] w (PrPost deepH (deepK n) w) :=
  print_any deepH (deepK n) _ _ (· < w.heap.size) w (by decide) (deep_ok n) htv (fun _ hb => hb) hst hl
/-- What was read out of the text with two numbers. -/
theorem kn_read {w : World} {B : Nat} {iv kv : Value} {bs : List Nat} (h : OT encJ w B 25 9 (.cons ⟨5, 0, [], []⟩ (.cons ⟨3, -9223372036854775808, [], []⟩ .nil (.cons ⟨3, 9223372036854775807, [], []⟩ .nil .nil)) .nil) (jcells ⟨5, 0, [], []⟩ iv kv) bs) :
    ∃ g c, iv = .slice (some ⟨g, 0, none⟩) 2 c ∧ g < w.heap.size ∧ w.cell? ⟨g, 1, none⟩ = some (.int .i64 (-9223372036854775808)) ∧ w.cell? ⟨g, 6, none⟩ = some (.int .i64 9223372036854775807) := by
  obtain ⟨iv', kv', us, rest, b1, b2, he, _, _, h1, h2, _⟩ := h
  simp only [encJ, jcells, List.cons_append, List.cons.injEq] at he
  obtain ⟨_, _, _, rfl, _⟩ := he
  obtain ⟨i1, j1, u1, r1, _, _, rfl, _, _, _, _, _, h3, _⟩ := h2
  obtain ⟨i2, j2, u2, r2, _, _, rfl, _⟩ := h3
  rcases h1.2 with ⟨_, h0⟩ | ⟨g, cap, cur, hv, _⟩
  · cases h0
  · obtain ⟨A, c, e, hr⟩ := own_readsN h1
    rw [hv] at e
    cases e
    obtain ⟨a, ea, hlt, hc⟩ := hr.2 (by decide)
    cases ea
    exact ⟨g, _, hv, hlt, by simpa [Addr.add, encJ, jcells] using hc 1 _ rfl, by simpa [Addr.add, encJ, jcells] using hc 6 _ rfl⟩
end Js
end Go.Proofs.YtlfeddgpfaigkaaGreatDoor
namespace Go.Proofs.YtlfeddgpfaigkaaGreatDoor
open Go.RowKit
namespace Js
set_option maxHeartbeats 8000000 in
set_option maxRecDepth 100000 in
theorem written_any (w : World) (hst : St w) : Calls Tryz.prog 28 #[] w fun x w' => x = .returned (.bool true) ∧ Below w.heap.size w w' := by
  obtain ⟨m91, hm91⟩ : ∃ m, m = List.replicate 32 (91 : UInt8) := ⟨_, rfl⟩
  obtain ⟨m93, hm93⟩ : ∃ m, m = List.replicate 32 (93 : UInt8) := ⟨_, rfl⟩
  have HDF : Hid (form deepH (deepK 31) = m91 ++ m93) := Lib.hid (by rw [hm91, hm93]; exact deep_f)
  have HML : Hid ((m91 ++ m93).length ≤ 4194304) := Lib.hid (by rw [hm91, hm93]; decide)
  have HA : Hid (∀ wx, Calls Tryz.prog 27 #[.string ⟨#[91]⟩, .int .i64 32] wx fun x w' => x = .returned (.string ⟨m91.toArray⟩) ∧ Below wx.heap.size wx w') := Lib.hid (fun wx => by rw [hm91]; exact many_any 91 32 wx (by decide))
  have HC : Hid (∀ wx, Calls Tryz.prog 27 #[.string ⟨#[93]⟩, .int .i64 32] wx fun x w' => x = .returned (.string ⟨m93.toArray⟩) ∧ Below wx.heap.size wx w') := Lib.hid (fun wx => by rw [hm93]; exact many_any 93 32 wx (by decide))
  have hadd : (⟨m91.toArray⟩ : ByteArray) ++ ⟨m93.toArray⟩ = ⟨(m91 ++ m93).toArray⟩ := by apply ByteArray.ext; simp
  have hl91 : m91.length ≤ 32 := by rw [hm91]; decide
  have hl93 : m93.length ≤ 32 := by rw [hm93]; decide
  have HST := Lib.hid hst
  clear hst hm91 hm93
  have HB0 : Hid (Below w.heap.size w w) := Lib.hid (Below.refl _ _)
  have HD := Lib.hid (deep_any 31 w (by decide))
  go_enter Tryz.func28, Tryz.ntmps28
  go_wp2_with fail
  refine HD.out.mono ?_
  rintro x w1 ⟨A, c, rfl, hb, htv⟩
  have HB1 : Hid (Below w.heap.size w w1) := Lib.hid (HB0.out.trans (hb.mono HB0.out.size))
  have HP := Lib.hid (print_deep 31 A c w1 htv (HST.out.below HB1.out) (fun _ => by rw [HDF.out]; have := HML.out; omega))
  clear hb htv HD
  go_wp2_with fail
  refine HP.out.mono ?_
  rintro x w2 hx
  obtain ⟨rfl, hb⟩ := pr_good deep_w1 HDF.out HML.out hx
  have HB2 : Hid (Below w.heap.size w w2) := Lib.hid (HB1.out.trans (hb.mono HB1.out.size))
  clear hx hb HP
  have HD := Lib.hid (deep_any 32 w2 (by decide))
  go_wp2_with fail
  refine HD.out.mono ?_
  rintro x w3 ⟨A, c, rfl, hb, htv⟩
  have HB3 : Hid (Below w.heap.size w w3) := Lib.hid (HB2.out.trans (hb.mono HB2.out.size))
  have HP := Lib.hid (print_deep 32 A c w3 htv (HST.out.below HB3.out) (fun e => absurd (deep_w2.symm.trans e) (by decide)))
  clear hb htv HD
  go_wp2_with fail
  refine HP.out.mono ?_
  rintro x w4 hx
  obtain ⟨rfl, hb⟩ := pr_bad deep_w2 hx
  have HB4 : Hid (Below w.heap.size w w4) := Lib.hid (HB3.out.trans (hb.mono HB3.out.size))
  clear hx hb HP
  have HP := Lib.hid (print_flat k3 [] none 0 none 0 w4 (by decide) (by decide) (by decide) (by decide) (by decide) RdS.none_ RdS.none_ (HST.out.below HB4.out) (fun e => absurd (kw3.symm.trans e) (by decide)))
  go_wp2_with fail
  refine HP.out.mono ?_
  rintro x w5 hx
  obtain ⟨rfl, hb⟩ := pr_bad kw3 hx
  have HB5 : Hid (Below w.heap.size w w5) := Lib.hid (HB4.out.trans (hb.mono HB4.out.size))
  clear hx hb HP
  obtain ⟨w6, hw6⟩ : ∃ w6, w6 = ((w5.alloc (.cells #[.string ⟨#[97]⟩, .string ⟨#[98]⟩] 9)).alloc (.cells #[.int .i64 9, .int .i64 0, .string ⟨#[]⟩, .slice none 0 0, .slice none 0 0] 25)) := ⟨_, rfl⟩
  have HB6 : Hid (Below w.heap.size w w6) := Lib.hid (HB5.out.trans (Below.mono (by rw [hw6]; exact (((Below.refl _ _).alloc (Nat.le_refl _) _).alloc (by simp) _)) HB5.out.size))
  have HK : Blk w6 (w5.heap.size) 9 #[.string ⟨#[97]⟩, .string ⟨#[98]⟩] := by rw [hw6]; exact (Blk.new _ _ _).alloc _
  have HI : Blk w6 (w5.heap.size + 1) 25 #[.int .i64 9, .int .i64 0, .string ⟨#[]⟩, .slice none 0 0, .slice none 0 0] := by rw [hw6]; exact (by have := Blk.new (w5.alloc (.cells #[.string ⟨#[97]⟩, .string ⟨#[98]⟩] 9)) 25 #[.int .i64 9, .int .i64 0, .string ⟨#[]⟩, .slice none 0 0, .slice none 0 0]; rw [World.size_alloc] at this; exact this)
  have HP := Lib.hid (print_flat k4 l4 (some ⟨w5.heap.size + 1, 0, none⟩) 1 (some ⟨w5.heap.size, 0, none⟩) 2 w6 (by decide) (by decide) (by decide) (by decide) (by decide) (RdS.of_reads (Reads.of_block (n := 1) HI rfl)) (RdS.of_reads (Reads.of_block (n := 2) HK rfl)) (HST.out.below HB6.out) (fun e => absurd (kw4.symm.trans e) (by decide)))
  clear HK
  clear HI
  go_wp2_with fail
  rw [← hw6]
  clear hw6
  refine HP.out.mono ?_
  rintro x w7 hx
  obtain ⟨rfl, hb⟩ := pr_bad kw4 hx
  have HB7 : Hid (Below w.heap.size w w7) := Lib.hid (HB6.out.trans (hb.mono HB6.out.size))
  clear hx hb HP
  obtain ⟨w8, hw8⟩ : ∃ w8, w8 = ((w7.alloc (.cells #[.string ⟨#[97]⟩, .string ⟨#[97]⟩] 9)).alloc (.cells #[.int .i64 9, .int .i64 0, .string ⟨#[]⟩, .slice none 0 0, .slice none 0 0, .int .i64 0, .int .i64 0, .string ⟨#[]⟩, .slice none 0 0, .slice none 0 0] 25)) := ⟨_, rfl⟩
  have HB8 : Hid (Below w.heap.size w w8) := Lib.hid (HB7.out.trans (Below.mono (by rw [hw8]; exact (((Below.refl _ _).alloc (Nat.le_refl _) _).alloc (by simp) _)) HB7.out.size))
  have HK : Blk w8 (w7.heap.size) 9 #[.string ⟨#[97]⟩, .string ⟨#[97]⟩] := by rw [hw8]; exact (Blk.new _ _ _).alloc _
  have HI : Blk w8 (w7.heap.size + 1) 25 #[.int .i64 9, .int .i64 0, .string ⟨#[]⟩, .slice none 0 0, .slice none 0 0, .int .i64 0, .int .i64 0, .string ⟨#[]⟩, .slice none 0 0, .slice none 0 0] := by rw [hw8]; exact (by have := Blk.new (w7.alloc (.cells #[.string ⟨#[97]⟩, .string ⟨#[97]⟩] 9)) 25 #[.int .i64 9, .int .i64 0, .string ⟨#[]⟩, .slice none 0 0, .slice none 0 0, .int .i64 0, .int .i64 0, .string ⟨#[]⟩, .slice none 0 0, .slice none 0 0]; rw [World.size_alloc] at this; exact this)
  have HP := Lib.hid (print_flat k5 l5 (some ⟨w7.heap.size + 1, 0, none⟩) 2 (some ⟨w7.heap.size, 0, none⟩) 2 w8 (by decide) (by decide) (by decide) (by decide) (by decide) (RdS.of_reads (Reads.of_block (n := 2) HI rfl)) (RdS.of_reads (Reads.of_block (n := 2) HK rfl)) (HST.out.below HB8.out) (fun e => absurd (kw5.symm.trans e) (by decide)))
  clear HK
  clear HI
  go_wp2_with fail
  rw [← hw8]
  clear hw8
  refine HP.out.mono ?_
  rintro x w9 hx
  obtain ⟨rfl, hb⟩ := pr_bad kw5 hx
  have HB9 : Hid (Below w.heap.size w w9) := Lib.hid (HB8.out.trans (hb.mono HB8.out.size))
  clear hx hb HP
  obtain ⟨w10, hw10⟩ : ∃ w10, w10 = ((w9.alloc (.cells #[.string ⟨#[97]⟩, .string ⟨#[97]⟩, .string ⟨#[255]⟩] 9)).alloc (.cells #[.int .i64 0, .int .i64 0, .string ⟨#[]⟩, .slice none 0 0, .slice none 0 0, .int .i64 0, .int .i64 0, .string ⟨#[]⟩, .slice none 0 0, .slice none 0 0, .int .i64 0, .int .i64 0, .string ⟨#[]⟩, .slice none 0 0, .slice none 0 0] 25)) := ⟨_, rfl⟩
  have HB10 : Hid (Below w.heap.size w w10) := Lib.hid (HB9.out.trans (Below.mono (by rw [hw10]; exact (((Below.refl _ _).alloc (Nat.le_refl _) _).alloc (by simp) _)) HB9.out.size))
  have HK : Blk w10 (w9.heap.size) 9 #[.string ⟨#[97]⟩, .string ⟨#[97]⟩, .string ⟨#[255]⟩] := by rw [hw10]; exact (Blk.new _ _ _).alloc _
  have HI : Blk w10 (w9.heap.size + 1) 25 #[.int .i64 0, .int .i64 0, .string ⟨#[]⟩, .slice none 0 0, .slice none 0 0, .int .i64 0, .int .i64 0, .string ⟨#[]⟩, .slice none 0 0, .slice none 0 0, .int .i64 0, .int .i64 0, .string ⟨#[]⟩, .slice none 0 0, .slice none 0 0] := by rw [hw10]; exact (by have := Blk.new (w9.alloc (.cells #[.string ⟨#[97]⟩, .string ⟨#[97]⟩, .string ⟨#[255]⟩] 9)) 25 #[.int .i64 0, .int .i64 0, .string ⟨#[]⟩, .slice none 0 0, .slice none 0 0, .int .i64 0, .int .i64 0, .string ⟨#[]⟩, .slice none 0 0, .slice none 0 0, .int .i64 0, .int .i64 0, .string ⟨#[]⟩, .slice none 0 0, .slice none 0 0]; rw [World.size_alloc] at this; exact this)
  have HP := Lib.hid (print_flat k6 l6 (some ⟨w9.heap.size + 1, 0, none⟩) 3 (some ⟨w9.heap.size, 0, none⟩) 3 w10 (by decide) (by decide) (by decide) (by decide) (by decide) (RdS.of_reads (Reads.of_block (n := 3) HI rfl)) (RdS.of_reads (Reads.of_block (n := 3) HK rfl)) (HST.out.below HB10.out) (fun e => absurd (kw6.symm.trans e) (by decide)))
  clear HK
  clear HI
  go_wp2_with fail
  rw [← hw10]
  clear hw10
  refine HP.out.mono ?_
  rintro x w11 hx
  obtain ⟨rfl, hb⟩ := pr_bad kw6 hx
  have HB11 : Hid (Below w.heap.size w w11) := Lib.hid (HB10.out.trans (hb.mono HB10.out.size))
  clear hx hb HP
  obtain ⟨w12, hw12⟩ : ∃ w12, w12 = (w11.alloc (.cells #[.int .i64 4, .int .i64 0, .string ⟨#[255]⟩, .slice none 0 0, .slice none 0 0, .int .i64 (-1), .int .i64 0, .string ⟨#[]⟩, .slice none 0 0, .slice none 0 0] 25)) := ⟨_, rfl⟩
  have HB12 : Hid (Below w.heap.size w w12) := Lib.hid (HB11.out.trans (Below.mono (by rw [hw12]; exact ((Below.refl _ _).alloc (Nat.le_refl _) _)) HB11.out.size))
  have HI : Blk w12 (w11.heap.size) 25 #[.int .i64 4, .int .i64 0, .string ⟨#[255]⟩, .slice none 0 0, .slice none 0 0, .int .i64 (-1), .int .i64 0, .string ⟨#[]⟩, .slice none 0 0, .slice none 0 0] := by rw [hw12]; exact Blk.new _ _ _
  have HP := Lib.hid (print_flat k7 l7 (some ⟨w11.heap.size, 0, none⟩) 2 none 0 w12 (by decide) (by decide) (by decide) (by decide) (by decide) (RdS.of_reads (Reads.of_block (n := 2) HI rfl)) RdS.none_ (HST.out.below HB12.out) (fun e => absurd (kw7.symm.trans e) (by decide)))
  clear HI
  go_wp2_with fail
  rw [← hw12]
  clear hw12
  refine HP.out.mono ?_
  rintro x w13 hx
  obtain ⟨rfl, hb⟩ := pr_bad kw7 hx
  have HB13 : Hid (Below w.heap.size w w13) := Lib.hid (HB12.out.trans (hb.mono HB12.out.size))
  clear hx hb HP
  obtain ⟨w14, hw14⟩ : ∃ w14, w14 = (w13.alloc (.cells #[.string ⟨#[97]⟩] 9)) := ⟨_, rfl⟩
  have HB14 : Hid (Below w.heap.size w w14) := Lib.hid (HB13.out.trans (Below.mono (by rw [hw14]; exact ((Below.refl _ _).alloc (Nat.le_refl _) _)) HB13.out.size))
  have HK : Blk w14 (w13.heap.size) 9 #[.string ⟨#[97]⟩] := by rw [hw14]; exact Blk.new _ _ _
  have HP := Lib.hid (print_flat k8 [] none 0 (some ⟨w13.heap.size, 0, none⟩) 1 w14 (by decide) (by decide) (by decide) (by decide) (by decide) RdS.none_ (RdS.of_reads (Reads.of_block (n := 1) HK rfl)) (HST.out.below HB14.out) (fun _ => by rw [kf8]; decide))
  clear HK
  go_wp2_with fail
  rw [← hw14]
  clear hw14
  refine HP.out.mono ?_
  rintro x w15 hx
  obtain ⟨rfl, hb⟩ := pr_good kw8 kf8 (by decide) hx
  have HB15 : Hid (Below w.heap.size w w15) := Lib.hid (HB14.out.trans (hb.mono HB14.out.size))
  clear hx hb HP
  have HP := Lib.hid (print_flat k9 [] none 0 none 0 w15 (by decide) (by decide) (by decide) (by decide) (by decide) RdS.none_ RdS.none_ (HST.out.below HB15.out) (fun _ => by rw [kf9]; decide))
  go_wp2_with fail
  refine HP.out.mono ?_
  rintro x w16 hx
  obtain ⟨rfl, hb⟩ := pr_good kw9 kf9 (by decide) hx
  have HB16 : Hid (Below w.heap.size w w16) := Lib.hid (HB15.out.trans (hb.mono HB15.out.size))
  clear hx hb HP
  unfold f8 f9
  go_upto_region 10 with fail
  have HP := Lib.hid (HA.out w16)
  go_wp2_with fail
  refine HP.out.mono ?_
  rintro x w17 ⟨rfl, hb⟩
  have HB17 : Hid (Below w.heap.size w w17) := Lib.hid (HB16.out.trans (hb.mono HB16.out.size))
  clear hb HP
  have HP := Lib.hid (HC.out w17)
  go_wp2_with fail
  refine HP.out.mono ?_
  rintro x w18 ⟨rfl, hb⟩
  have HB18 : Hid (Below w.heap.size w w18) := Lib.hid (HB17.out.trans (hb.mono HB17.out.size))
  clear hb HP
  have HP := Lib.hid (Err.plain_errno 5 5 (by decide) (by decide) w18 (HST.out.below HB18.out).err)
  go_wp2_with fail
  refine HP.out.mono ?_
  rintro x w19 ⟨rfl, hb⟩
  have HB19 : Hid (Below w.heap.size w w19) := Lib.hid (HB18.out.trans (hb.mono HB18.out.size))
  clear hb HP
  have HP := Lib.hid (Err.plain_errno 14 14 (by decide) (by decide) w19 (HST.out.below HB19.out).err)
  go_wp2_with fail
  refine HP.out.mono ?_
  rintro x w20 ⟨rfl, hb⟩
  have HB20 : Hid (Below w.heap.size w w20) := Lib.hid (HB19.out.trans (hb.mono HB19.out.size))
  clear hb HP
  have HP := Lib.hid (Err.plain_errno 14 14 (by decide) (by decide) w20 (HST.out.below HB20.out).err)
  go_wp2_with fail
  refine HP.out.mono ?_
  rintro x w21 ⟨rfl, hb⟩
  have HB21 : Hid (Below w.heap.size w w21) := Lib.hid (HB20.out.trans (hb.mono HB20.out.size))
  clear hb HP
  have HP := Lib.hid (Err.plain_errno 11 11 (by decide) (by decide) w21 (HST.out.below HB21.out).err)
  go_wp2_with fail
  refine HP.out.mono ?_
  rintro x w22 ⟨rfl, hb⟩
  have HB22 : Hid (Below w.heap.size w w22) := Lib.hid (HB21.out.trans (hb.mono HB21.out.size))
  clear hb HP
  have HP := Lib.hid (Err.plain_errno 6 6 (by decide) (by decide) w22 (HST.out.below HB22.out).err)
  go_wp2_with fail
  refine HP.out.mono ?_
  rintro x w23 ⟨rfl, hb⟩
  have HB23 : Hid (Below w.heap.size w w23) := Lib.hid (HB22.out.trans (hb.mono HB22.out.size))
  clear hb HP
  have HP := Lib.hid (Err.plain_errno 6 6 (by decide) (by decide) w23 (HST.out.below HB23.out).err)
  go_wp2_with fail
  refine HP.out.mono ?_
  rintro x w24 ⟨rfl, hb⟩
  have HB24 : Hid (Below w.heap.size w w24) := Lib.hid (HB23.out.trans (hb.mono HB23.out.size))
  clear hb HP
  have HP := Lib.hid (parse_any [34, 92, 117, 100, 56, 51, 100, 92, 117, 100, 101, 48, 48, 92, 117, 48, 48, 101, 57, 92, 47, 92, 98, 34] w24 (HST.out.below HB24.out))
  go_wp2_with fail
  refine HP.out.mono ?_
  rintro x w25 hx
  unfold PaPost at hx
  rw [kn_p1] at hx
  obtain ⟨iv, kv, bs, rfl, hot, _, hb⟩ := hx
  obtain ⟨⟨A1, c1, rfl⟩, A2, c2, rfl⟩ := ot_form hot
  have HB25 : Hid (Below w.heap.size w w25) := Lib.hid (HB24.out.trans (hb.mono HB24.out.size))
  clear hb hot HP
  obtain ⟨w26, hw26⟩ : ∃ w26, w26 = (w25.alloc (.cells #[.int .i64 4, .int .i64 0, .string ⟨#[240, 159, 152, 128, 195, 169, 47, 8]⟩, .slice A1 F.nil.len c1, .slice A2 0 c2] 25)) := ⟨_, rfl⟩
  have HB26 : Hid (Below w.heap.size w w26) := Lib.hid (by rw [hw26]; exact HB25.out.alloc HB25.out.size _)
  have HV : Hid (Blk w26 w25.heap.size 25 #[.int .i64 4, .int .i64 0, .string ⟨#[240, 159, 152, 128, 195, 169, 47, 8]⟩, .slice A1 F.nil.len c1, .slice A2 0 c2]) := Lib.hid (by rw [hw26]; exact Blk.new _ _ _)
  have HP := Lib.hid (parse_any [91, 45, 57, 50, 50, 51, 51, 55, 50, 48, 51, 54, 56, 53, 52, 55, 55, 53, 56, 48, 56, 44, 57, 50, 50, 51, 51, 55, 50, 48, 51, 54, 56, 53, 52, 55, 55, 53, 56, 48, 55, 93] w26 (HST.out.below HB26.out))
  go_wp2_with fail
  rw [← hw26]
  clear hw26
  refine HP.out.mono ?_
  rintro x w27 hx
  unfold PaPost at hx
  rw [kn_p2] at hx
  obtain ⟨iv, kv, bs, rfl, hot, _, hb⟩ := hx
  obtain ⟨⟨A3, c3, rfl⟩, A4, c4, rfl⟩ := ot_form hot
  obtain ⟨g, cc, hg, hgl, hg1, hg6⟩ := kn_read hot
  rw [hg]
  have HV2 := Lib.hid (HV.out.below hb HV.out.lt)
  have HB27 : Hid (Below w.heap.size w w27) := Lib.hid (HB26.out.trans (hb.mono HB26.out.size))
  clear hb hot HP HV
  obtain ⟨w28, hw28⟩ : ∃ w28, w28 = (w27.alloc (.cells #[.int .i64 5, .int .i64 0, .string ⟨#[]⟩, .slice (some ⟨g, 0, none⟩) 2 cc, .slice A4 0 c4] 25)) := ⟨_, rfl⟩
  have HB28 : Hid (Below w.heap.size w w28) := Lib.hid (by rw [hw28]; exact HB27.out.alloc HB27.out.size _)
  have HW : Hid (Blk w28 w27.heap.size 25 #[.int .i64 5, .int .i64 0, .string ⟨#[]⟩, .slice (some ⟨g, 0, none⟩) 2 cc, .slice A4 0 c4]) := Lib.hid (by rw [hw28]; exact Blk.new _ _ _)
  have HV3 : Hid (Blk w28 w25.heap.size 25 #[.int .i64 4, .int .i64 0, .string ⟨#[240, 159, 152, 128, 195, 169, 47, 8]⟩, .slice A1 F.nil.len c1, .slice A2 0 c2]) := Lib.hid (by rw [hw28]; exact HV2.out.alloc _)
  have n1 : w28.cell? ⟨g, 1, none⟩ = some (.int .i64 (-9223372036854775808)) := by rw [hw28]; exact (World.cell?_alloc_lt _ _ _ hgl).trans hg1
  have n6 : w28.cell? ⟨g, 6, none⟩ = some (.int .i64 9223372036854775807) := by rw [hw28]; exact (World.cell?_alloc_lt _ _ _ hgl).trans hg6
  go_upto_region 14 with fail
  rw [← hw28]
  clear hw28 HV2
  have v2 := HV3.out.cell 2
  have v3 := HW.out.cell 3
  go_wp2_with fail
  go_ret
  exact ⟨rfl, HB28.out⟩
end Js
end Go.Proofs.YtlfeddgpfaigkaaGreatDoor
namespace Go.Proofs.YtlfeddgpfaigkaaGreatDoor
open Go.RowKit
namespace Js
theorem lg_flat (n : Nat) : (List.replicate n (97 : UInt8)).flatMap qc = List.replicate n 97 := by
  induction n with
  | zero => rfl
  | succ n ih => rw [List.replicate_succ, List.flatMap_cons, ih]; rfl
theorem lg_wrong (n : Nat) : wrong (List.replicate n (97 : UInt8)) = none := by
  have := wrong_asciis (List.replicate n (97 : UInt8)) [] (fun c hc => by rw [List.eq_of_mem_replicate hc]; decide)
  rw [List.append_nil] at this
  rw [this]; rfl
def lgH (t : List UInt8) : Hd := ⟨4, 0, t, []⟩
theorem lg_wrongs {t : List UInt8} (h : wrong t = none) : wrongs 1 (lgH t) (leaves []) = 0 := by
  have e : own 1 (lgH t) (leaves []).len = 0 := by
    unfold own lgH
    rw [if_neg (by decide), if_neg (by simp), if_neg (by simp [h]), if_pos (by show (4 : Int) ≠ 6; decide)]
  unfold wrongs
  simp only [e]
  rfl
theorem lg_form (t : List UInt8) : form (lgH t) (leaves []) = quoted t := rfl
theorem lg_norm (t : List UInt8) : norm (lgH t) (leaves []) = (lgH t, .nil) := rfl
theorem pr_long {h : Hd} {k : F} {w w' : World} {x : Ending} (hw : wrongs 1 h k = 0) (hl : 4194304 < (form h k).length) (hx : PrPost h k w x w') : x = .returned (.tuple #[.string .empty, .iface 95 (.int .i64 (5 : Nat))]) ∧ Below w.heap.size w w' := by
  obtain ⟨hb, hx⟩ := hx
  have e : (printed h k).2 = 5 := by unfold printed; rw [if_neg (by rw [hw]; simp), if_pos hl]
  rw [e] at hx
  rcases hx with ⟨h0, _⟩ | ⟨_, h0⟩
  · cases h0
  · exact ⟨h0, hb⟩
theorem lg_okh {t : List UInt8} (h : t.length ≤ 4398046511104) : Okh (lgH t) := ⟨⟨h, by simp [lgH]⟩, (by show _ ≤ (0 : Int); decide), (by show (0 : Int) ≤ _; decide)⟩
set_option maxHeartbeats 8000000 in
set_option maxRecDepth 100000 in
theorem long_any (w : World) (hst : St w) : Calls Tryz.prog 29 #[] w fun x w' => x = .returned (.bool true) ∧ Below w.heap.size w w' := by
  obtain ⟨a, ha⟩ : ∃ a, a = List.replicate 4194302 (97 : UInt8) := ⟨_, rfl⟩
  obtain ⟨a1, ha1⟩ : ∃ a1, a1 = a ++ [97] := ⟨_, rfl⟩
  obtain ⟨s, hs⟩ : ∃ s, s = 34 :: (a ++ [34]) := ⟨_, rfl⟩
  have hal : a.length = 4194302 := by rw [ha, List.length_replicate]
  have ha1l : a1.length = 4194303 := by rw [ha1, List.length_append, hal]; rfl
  have hsl : s.length = 4194304 := by rw [hs, List.length_cons, List.length_append, hal]; rfl
  have e1 : a1 = List.replicate 4194303 (97 : UInt8) := by rw [ha1, ha]; exact List.replicate_succ'.symm
  have HW : Hid (wrongs 1 (lgH a) (leaves []) = 0) := Lib.hid (lg_wrongs (by rw [ha]; exact lg_wrong _))
  have HW1 : Hid (wrongs 1 (lgH a1) (leaves []) = 0) := Lib.hid (lg_wrongs (by rw [e1]; exact lg_wrong _))
  have HF : Hid (form (lgH a) (leaves []) = s) := Lib.hid (by rw [lg_form, hs, ha]; unfold quoted; rw [lg_flat])
  have HF1 : Hid (4194304 < (form (lgH a1) (leaves [])).length) := Lib.hid (by rw [lg_form]; unfold quoted; rw [e1, lg_flat, List.length_cons, List.length_append, List.length_replicate]; decide)
  have HF2 : Hid ((form (lgH a1) (leaves [])).length ≤ 1099511627776) := Lib.hid (by rw [lg_form]; unfold quoted; rw [e1, lg_flat, List.length_cons, List.length_append, List.length_replicate]; decide)
  have HPA : Hid (parse s = .ok (lgH a) .nil []) := Lib.hid (by
    have h := (parse_again HW.out (lg_okh (t := a) (by rw [hal]; decide)).2 trivial (by rw [HF.out, hsl]; exact Nat.le_refl _)).1
    rw [HF.out, lg_norm] at h; exact h)
  have HPM : Hid (parse (s ++ [32]) = .err 5 (s ++ [32])) := Lib.hid (pa_many (by rw [List.length_append, hsl]; decide))
  have HM : Hid (∀ wx, Calls Tryz.prog 27 #[.string ⟨#[97]⟩, .int .i64 4194302] wx fun x w' => x = .returned (.string ⟨a.toArray⟩) ∧ Below wx.heap.size wx w') := Lib.hid (fun wx => by rw [ha]; exact many_any 97 4194302 wx (by decide))
  have HO : Hid (Okh (lgH a) ∧ Okh (lgH a1)) := Lib.hid ⟨lg_okh (by rw [hal]; decide), lg_okh (by rw [ha1l]; decide)⟩
  have had1 : (⟨a.toArray⟩ : ByteArray) ++ ⟨#[97]⟩ = ⟨a1.toArray⟩ := by rw [ha1]; apply ByteArray.ext; simp
  have had2 : (⟨s.toArray⟩ : ByteArray) ++ ⟨#[32]⟩ = ⟨(s ++ [32]).toArray⟩ := by apply ByteArray.ext; simp
  have HST := Lib.hid hst
  clear hst ha ha1 hs e1
  have hq1 : ((s.length : Int) == 4194304) = true := by rw [hsl]; rfl
  have hq2 : ((a.length : Int) == 4194302) = true := by rw [hal]; rfl
  have HB0 : Hid (Below w.heap.size w w) := Lib.hid (Below.refl _ _)
  go_enter Tryz.func29, Tryz.ntmps29
  have HP := Lib.hid (HM.out w)
  go_wp2_with fail
  refine HP.out.mono ?_
  rintro x w1 ⟨rfl, hb⟩
  have HB1 : Hid (Below w.heap.size w w1) := Lib.hid (HB0.out.trans (hb.mono HB0.out.size))
  clear hb HP
  have HP := Lib.hid (print_flat (lgH a) [] none 0 none 0 w1 HO.out.1 (by simp) (by simp) (by decide) (Nat.zero_le _) RdS.none_ RdS.none_ (HST.out.below HB1.out) (fun _ => by rw [HF.out, hsl]; decide))
  go_wp2_with fail
  refine HP.out.mono ?_
  rintro x w2 hx
  obtain ⟨rfl, hb⟩ := pr_good HW.out HF.out (by rw [hsl]; exact Nat.le_refl _) hx
  have HB2 : Hid (Below w.heap.size w w2) := Lib.hid (HB1.out.trans (hb.mono HB1.out.size))
  clear hx hb HP
  have HP := Lib.hid (print_flat (lgH a1) [] none 0 none 0 w2 HO.out.2 (by simp) (by simp) (by decide) (Nat.zero_le _) RdS.none_ RdS.none_ (HST.out.below HB2.out) (fun _ => HF2.out))
  go_wp2_with fail
  refine HP.out.mono ?_
  rintro x w3 hx
  obtain ⟨rfl, hb⟩ := pr_long HW1.out HF1.out hx
  have HB3 : Hid (Below w.heap.size w w3) := Lib.hid (HB2.out.trans (hb.mono HB2.out.size))
  clear hx hb HP
  have HP := Lib.hid (parse_any s w3 (HST.out.below HB3.out))
  go_wp2_with fail
  refine HP.out.mono ?_
  rintro x w4 hx
  unfold PaPost at hx
  rw [HPA.out] at hx
  obtain ⟨iv, kv, bs, rfl, hot, _, hb⟩ := hx
  obtain ⟨⟨A1, c1, rfl⟩, A2, c2, rfl⟩ := ot_form hot
  have HB4 : Hid (Below w.heap.size w w4) := Lib.hid (HB3.out.trans (hb.mono HB3.out.size))
  clear hb hot HP
  unfold lgH
  obtain ⟨w5, hw5⟩ : ∃ w5, w5 = w4.alloc (.cells #[.int .i64 4, .int .i64 0, .string ⟨a.toArray⟩, .slice A1 F.nil.len c1, .slice A2 0 c2] 25) := ⟨_, rfl⟩
  have HB5 : Hid (Below w.heap.size w w5) := Lib.hid (by rw [hw5]; exact HB4.out.alloc HB4.out.size _)
  have HV : Hid (Blk w5 w4.heap.size 25 #[.int .i64 4, .int .i64 0, .string ⟨a.toArray⟩, .slice A1 F.nil.len c1, .slice A2 0 c2]) := Lib.hid (by rw [hw5]; exact Blk.new _ _ _)
  have HP := Lib.hid (parse_any (s ++ [32]) w5 (HST.out.below HB5.out))
  go_wp2_with fail
  rw [← hw5]
  clear hw5
  refine HP.out.mono ?_
  rintro x w6 hx
  unfold PaPost at hx
  rw [HPM.out] at hx
  obtain ⟨q, hq, rfl, hb⟩ := hx
  obtain rfl : q = 0 := by omega
  have HV2 := Lib.hid (HV.out.below hb HV.out.lt)
  have HB6 : Hid (Below w.heap.size w w6) := Lib.hid (HB5.out.trans (hb.mono HB5.out.size))
  clear hb hq HP HV
  unfold zeroJ faultV
  obtain ⟨w7, hw7⟩ : ∃ w7, w7 = w6.alloc (.cells #[.int .i64 0, .int .i64 0, .string ByteArray.empty, .slice none 0 0, .slice none 0 0] 25) := ⟨_, rfl⟩
  have HB7 : Hid (Below w.heap.size w w7) := Lib.hid (by rw [hw7]; exact HB6.out.alloc HB6.out.size _)
  have HV3 : Hid (Blk w7 w4.heap.size 25 #[.int .i64 4, .int .i64 0, .string ⟨a.toArray⟩, .slice A1 F.nil.len c1, .slice A2 0 c2]) := Lib.hid (by rw [hw7]; exact HV2.out.alloc _)
  go_upto_region 6 with fail
  rw [← hw7]
  clear hw7 HV2
  have HP := Lib.hid (Err.plain_errno 5 5 (by decide) (by decide) w7 (HST.out.below HB7.out).err)
  go_wp2_with fail
  refine HP.out.mono ?_
  rintro x w8 ⟨rfl, hb⟩
  have HB8 : Hid (Below w.heap.size w w8) := Lib.hid (HB7.out.trans (hb.mono HB7.out.size))
  have HV4 := Lib.hid (HV3.out.below hb HV3.out.lt)
  clear hb HP HV3
  have v2 := HV4.out.cell 2
  have HP : Hid (Calls Tryz.prog 18 #[.iface 98 (.agg #[.int .i64 5, .int .i64 0, .int .i64 0]), .int .i64 5, .int .i64 0, .int .i64 0] w8 fun e w' => e = .returned (.bool true) ∧ Below w8.heap.size w8 w') := Lib.hid (Err.at_fault 5 0 0 (by decide) (by decide) w8 (HST.out.below HB8.out).err)
  go_wp2_with fail
  refine HP.out.mono ?_
  rintro x w9 ⟨rfl, hb⟩
  have HB9 : Hid (Below w.heap.size w w9) := Lib.hid (HB8.out.trans (hb.mono HB8.out.size))
  clear hb HP
  go_wp2
  go_ret
  exact ⟨rfl, HB9.out⟩
set_option maxHeartbeats 16000000 in
set_option maxRecDepth 100000 in
theorem jsonKnown_any (w : World) (hst : St w) : Calls Tryz.prog 8 #[] w fun x w' => x = .returned (.bool true) ∧ Below w.heap.size w w' := by
  obtain ⟨m31, hm31⟩ : ∃ m, m = List.replicate 31 (91 : UInt8) := ⟨_, rfl⟩
  obtain ⟨m32, hm32⟩ : ∃ m, m = List.replicate 32 (91 : UInt8) := ⟨_, rfl⟩
  obtain ⟨m33, hm33⟩ : ∃ m, m = List.replicate 33 (91 : UInt8) := ⟨_, rfl⟩
  have HGA : Hid ((refA m32).all goodF = true) := Lib.hid (by rw [hm32]; exact refA_good)
  have HGD : Hid ((refD m33 m32 m31).all goodF = true) := Lib.hid (by rw [hm31, hm32, hm33]; exact refD_good)
  have hl31 : m31.length ≤ 40 := by rw [hm31]; decide
  have hl32 : m32.length ≤ 40 := by rw [hm32]; decide
  have hl33 : m33.length ≤ 40 := by rw [hm33]; decide
  have H31 : Hid (∀ wx, Calls Tryz.prog 27 #[.string ⟨#[91]⟩, .int .i64 31] wx fun x w' => x = .returned (.string ⟨m31.toArray⟩) ∧ Below wx.heap.size wx w') := Lib.hid (fun wx => by rw [hm31]; exact many_any 91 31 wx (by decide))
  have H32 : Hid (∀ wx, Calls Tryz.prog 27 #[.string ⟨#[91]⟩, .int .i64 32] wx fun x w' => x = .returned (.string ⟨m32.toArray⟩) ∧ Below wx.heap.size wx w') := Lib.hid (fun wx => by rw [hm32]; exact many_any 91 32 wx (by decide))
  have H33 : Hid (∀ wx, Calls Tryz.prog 27 #[.string ⟨#[91]⟩, .int .i64 33] wx fun x w' => x = .returned (.string ⟨m33.toArray⟩) ∧ Below wx.heap.size wx w') := Lib.hid (fun wx => by rw [hm33]; exact many_any 91 33 wx (by decide))
  have had1 : (⟨m32.toArray⟩ : ByteArray) ++ ⟨#[32]⟩ = ⟨(m32 ++ [32]).toArray⟩ := by apply ByteArray.ext; simp
  have had2 : (⟨m32.toArray⟩ : ByteArray) ++ ⟨#[33]⟩ = ⟨(m32 ++ [33]).toArray⟩ := by apply ByteArray.ext; simp
  have had3 : (⟨m31.toArray⟩ : ByteArray) ++ ⟨#[33]⟩ = ⟨(m31 ++ [33]).toArray⟩ := by apply ByteArray.ext; simp
  have HST := Lib.hid hst
  clear hst hm31 hm32 hm33
  have HB0 : Hid (Below w.heap.size w w) := Lib.hid (Below.refl _ _)
  go_enter Tryz.func8, Tryz.ntmps8
  have HP := Lib.hid (H32.out w)
  go_wp2_with fail
  refine HP.out.mono ?_
  rintro x w1 ⟨rfl, hb⟩
  have HB1 : Hid (Below w.heap.size w w1) := Lib.hid (HB0.out.trans (hb.mono HB0.out.size))
  clear hb HP
  have HP := Lib.hid (H32.out w1)
  go_wp2_with fail
  refine HP.out.mono ?_
  rintro x w2 ⟨rfl, hb⟩
  have HB2 : Hid (Below w.heap.size w w2) := Lib.hid (HB1.out.trans (hb.mono HB1.out.size))
  clear hb HP
  go_wp2_with fail
  obtain ⟨w3, hw3⟩ : ∃ w3, w3 = w2.alloc (.cells (fcells (refA m32)).toArray 78) := ⟨_, rfl⟩
  have HB3 : Hid (Below w.heap.size w w3) := Lib.hid (by rw [hw3]; exact HB2.out.alloc HB2.out.size _)
  have HP := Lib.hid (refused_any (refA m32) w2.heap.size 19 w3 (by show (19 : Nat) ≤ 1000; decide) (all_good HGA.out) (FRow.of_block (t := 78) (cs := (fcells (refA m32)).toArray) (by rw [hw3]; exact Blk.new _ _ _) rfl) (HST.out.below HB3.out))
  rw [hw3] at HP
  have HBx := Lib.hid (show ∀ wy, Below w3.heap.size w3 wy → Below w.heap.size w wy from fun wy hy => HB3.out.trans (hy.mono HB3.out.size))
  rw [hw3] at HBx
  clear hw3
  refine HP.out.mono ?_
  rintro x w4 ⟨rfl, hb⟩
  have HB4 : Hid (Below w.heap.size w w4) := Lib.hid (HBx.out _ hb)
  clear hb HP HBx
  go_wp2_with fail
  obtain ⟨w5, hw5⟩ : ∃ w5, w5 = w4.alloc (.cells (fcells (refB)).toArray 78) := ⟨_, rfl⟩
  have HB5 : Hid (Below w.heap.size w w5) := Lib.hid (by rw [hw5]; exact HB4.out.alloc HB4.out.size _)
  have HP := Lib.hid (refused_any (refB) w4.heap.size 11 w5 (by show (11 : Nat) ≤ 1000; decide) (all_good refB_good) (FRow.of_block (t := 78) (cs := (fcells (refB)).toArray) (by rw [hw5]; exact Blk.new _ _ _) rfl) (HST.out.below HB5.out))
  rw [hw5] at HP
  have HBx := Lib.hid (show ∀ wy, Below w5.heap.size w5 wy → Below w.heap.size w wy from fun wy hy => HB5.out.trans (hy.mono HB5.out.size))
  rw [hw5] at HBx
  clear hw5
  refine HP.out.mono ?_
  rintro x w6 ⟨rfl, hb⟩
  have HB6 : Hid (Below w.heap.size w w6) := Lib.hid (HBx.out _ hb)
  clear hb HP HBx
  go_wp2_with fail
  obtain ⟨w7, hw7⟩ : ∃ w7, w7 = w6.alloc (.cells (fcells (refC)).toArray 78) := ⟨_, rfl⟩
  have HB7 : Hid (Below w.heap.size w w7) := Lib.hid (by rw [hw7]; exact HB6.out.alloc HB6.out.size _)
  have HP := Lib.hid (refused_any (refC) w6.heap.size 16 w7 (by show (16 : Nat) ≤ 1000; decide) (all_good refC_good) (FRow.of_block (t := 78) (cs := (fcells (refC)).toArray) (by rw [hw7]; exact Blk.new _ _ _) rfl) (HST.out.below HB7.out))
  rw [hw7] at HP
  have HBx := Lib.hid (show ∀ wy, Below w7.heap.size w7 wy → Below w.heap.size w wy from fun wy hy => HB7.out.trans (hy.mono HB7.out.size))
  rw [hw7] at HBx
  clear hw7
  refine HP.out.mono ?_
  rintro x w8 ⟨rfl, hb⟩
  have HB8 : Hid (Below w.heap.size w w8) := Lib.hid (HBx.out _ hb)
  clear hb HP HBx
  have HP := Lib.hid (H33.out w8)
  go_wp2_with fail
  refine HP.out.mono ?_
  rintro x w9 ⟨rfl, hb⟩
  have HB9 : Hid (Below w.heap.size w w9) := Lib.hid (HB8.out.trans (hb.mono HB8.out.size))
  clear hb HP
  have HP := Lib.hid (H32.out w9)
  go_wp2_with fail
  refine HP.out.mono ?_
  rintro x w10 ⟨rfl, hb⟩
  have HB10 : Hid (Below w.heap.size w w10) := Lib.hid (HB9.out.trans (hb.mono HB9.out.size))
  clear hb HP
  have HP := Lib.hid (H31.out w10)
  go_wp2_with fail
  refine HP.out.mono ?_
  rintro x w11 ⟨rfl, hb⟩
  have HB11 : Hid (Below w.heap.size w w11) := Lib.hid (HB10.out.trans (hb.mono HB10.out.size))
  clear hb HP
  go_wp2_with fail
  obtain ⟨w12, hw12⟩ : ∃ w12, w12 = w11.alloc (.cells (fcells (refD m33 m32 m31)).toArray 78) := ⟨_, rfl⟩
  have HB12 : Hid (Below w.heap.size w w12) := Lib.hid (by rw [hw12]; exact HB11.out.alloc HB11.out.size _)
  have HP := Lib.hid (refused_any (refD m33 m32 m31) w11.heap.size 11 w12 (by show (11 : Nat) ≤ 1000; decide) (all_good HGD.out) (FRow.of_block (t := 78) (cs := (fcells (refD m33 m32 m31)).toArray) (by rw [hw12]; exact Blk.new _ _ _) rfl) (HST.out.below HB12.out))
  rw [hw12] at HP
  have HBx := Lib.hid (show ∀ wy, Below w12.heap.size w12 wy → Below w.heap.size w wy from fun wy hy => HB12.out.trans (hy.mono HB12.out.size))
  rw [hw12] at HBx
  clear hw12
  refine HP.out.mono ?_
  rintro x w13 ⟨rfl, hb⟩
  have HB13 : Hid (Below w.heap.size w w13) := Lib.hid (HBx.out _ hb)
  clear hb HP HBx
  have HP := Lib.hid (written_any w13 (HST.out.below HB13.out))
  go_wp2_with fail
  refine HP.out.mono ?_
  rintro x w14 ⟨rfl, hb⟩
  have HB14 : Hid (Below w.heap.size w w14) := Lib.hid (HB13.out.trans (hb.mono HB13.out.size))
  clear hb HP
  have HP := Lib.hid (long_any w14 (HST.out.below HB14.out))
  go_wp2_with fail
  refine HP.out.mono ?_
  rintro x w15 ⟨rfl, hb⟩
  have HB15 : Hid (Below w.heap.size w w15) := Lib.hid (HB14.out.trans (hb.mono HB14.out.size))
  clear hb HP
  have HP := Lib.hid (works_any w15 (HST.out.below HB15.out))
  go_wp2_with fail
  refine HP.out.mono ?_
  rintro x w16 ⟨rfl, hb⟩
  have HB16 : Hid (Below w.heap.size w w16) := Lib.hid (HB15.out.trans (hb.mono HB15.out.size))
  clear hb HP
  go_wp2
  go_ret
  exact ⟨rfl, HB16.out⟩
end Js
end Go.Proofs.YtlfeddgpfaigkaaGreatDoor
