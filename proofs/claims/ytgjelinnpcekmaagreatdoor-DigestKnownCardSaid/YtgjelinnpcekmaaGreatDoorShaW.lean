/-
  The walk of a hash's Write at this seat's translation: a text taken piece by piece.
-/
import Derived.Test.YtgjelinnpcekmaaGreatDoorShaK
import Derived.Test.YtgjelinnpcekmaaGreatDoorJS
import Derived.Deep.DeepCutAuto
namespace Go.Proofs.YtgjelinnpcekmaaGreatDoor
open Go.RowKit Sha

def strSz (v : Value) : Nat := match v with | .string b => b.size | _ => 0
/-- What Write leaves. -/
def WritePost (w : World) (g : Nat) (z : Int) (x : HS) (s : List UInt8) (e : Ending) (w' : World) : Prop :=
  e = .returned (.tuple #[]) ∧ HshS w' g z (x.bytes s) ∧ w.grownBy w' (some g)
theorem grown_drewN {w w' : World} {r : Option Nat} (h : w.grownBy w' r) (n : Nat) : w.grownBy (w'.drewN n) r := ⟨h.os, h.tape, h.output, h.size, h.block⟩
theorem ktab_grown {w w' : World} {g : Nat} (hk : KTab w) (hg : 1 < w.heap.size) (hne : 1 ≠ g) (h : w.grownBy w' (some g)) : KTab w' :=
  fun k hlt => (World.cell?_of_block (a := ⟨1, k, none⟩) (h.block 1 hg (fun e => hne (Option.some.inj e)))).trans (hk k hlt)
theorem grown_setRow (w : World) (g : Nat) (cs : Array Value) : w.grownBy (w.setRow g cs) (some g) :=
  ⟨rfl, rfl, rfl, by simp, fun k _ hk => setRow_other w g k cs (fun e => hk (by rw [e]))⟩
theorem rest64 : Tryz.prog.arrayLen 81 = 64 ∧ Tryz.prog.elem 81 = 5 ∧ Tryz.prog.underlying 81 = some (.array (Tryz.prog.arrayLen 81) (Tryz.prog.elem 81)) := by
  refine ⟨by kernel_rfl, by kernel_rfl, by kernel_rfl⟩
theorem u8Size (w : World) : (sizeOf 5).run Tryz.prog w = .ok 1 w := by
  obtain ⟨i, hi, hs⟩ : ∃ i, Tryz.prog.info? 5 = some i ∧ i.size = 1 := by
    have h : (Tryz.prog.info? 5).map (·.size) = some 1 := by kernel_rfl
    cases hq : Tryz.prog.info? 5 with
    | none => rw [hq] at h; cases h
    | some i => rw [hq] at h; exact ⟨i, rfl, by simpa using h⟩
  simp [sizeOf, typeInfo, hi, hs]
theorem sliceRest (g i : Nat) (h : i < 64) (wx : World) : (Instr.sliceAt 81 (.pointer (some ⟨g, 9, none⟩)) (some (.int .i64 (i : Int))) none none).run Tryz.prog wx = .ok (.slice (some ⟨g, 9 + i, none⟩) (64 - i) (64 - i)) wx := by
  obtain ⟨h1, h2, h3⟩ := rest64
  rw [run_sliceAt_array_l wx 81 _ h3 .i64 (i : Int) (by omega) (by rw [h1]; omega), h2, u8Size, h1]
  simp only [Result.andThen_ok, slicedAt, Int.toNat_natCast, Nat.mul_one, if_neg (show ¬ 64 = i by omega), Addr.add]
  by_cases h0 : i = 0
  · subst h0; rfl
  · rw [if_neg h0]
theorem u8One : (Tryz.prog.info? 5).map (·.size) = some 1 := by kernel_rfl
set_option maxHeartbeats 8000000 in
set_option maxRecDepth 100000 in
theorem write_any (g : Nat) (z : Int) (x : HS) (s : List UInt8) (w : World) (h : HshS w g z x) (hk : KTab w) (hg : 1 < w.heap.size) (hne : 1 ≠ g) (hn : x.n + s.length < 4611686018427387904) :
    Calls Tryz.prog 27 #[.pointer (some ⟨g, 0, none⟩), .string ⟨s.toArray⟩] w (WritePost w g z x s) := by
  have HH := Lib.hid h
  have HK := Lib.hid hk
  have HG := Lib.hid hg
  have HNE := Lib.hid hne
  have HN := Lib.hid hn
  clear h hk hg hne hn
  go_enter Tryz.func27, Tryz.ntmps27
  go_wp2_with fail
  go_loopw [1] (fun sv wr => ∃ q r : List UInt8, sv = .string ⟨r.toArray⟩ ∧ Hid (s = q ++ r) ∧ Hid (HshS wr g z (x.bytes q)) ∧ Hid (w.grownBy wr (some g))) (fun sv _ => strSz sv)
  case atStart => exact ⟨[], s, rfl, Lib.hid rfl, HH, Lib.hid (World.grownBy.refl _ _)⟩
  case round =>
    obtain ⟨q, r, rfl, HSQ, HX, HW⟩ := hrel
    by_cases hlt : 0 < r.length
    · obtain ⟨y, hy⟩ : ∃ y, y = x.bytes q := ⟨_, rfl⟩
      have HY := Lib.hid hy
      have hyn : y.n + r.length < 4611686018427387904 := by rw [hy, HS.bytes_n]; have h1 := congrArg List.length HSQ.out; rw [List.length_append] at h1; have := HN.out; omega
      rw [← hy] at HX
      clear hy
      have cn := HX.out.c_n
      have hm : ((y.n : Int)).tmod 64 = ((y.n % 64 : Nat) : Int) := (Int.ofNat_tmod y.n 64).symm
      have hm2 : ((y.n % 64 : Nat) : Int) < 64 := by omega
      generalize hat : y.n % 64 = at_ at hm hm2
      have HAT := Lib.hid hat
      clear hat
      obtain ⟨p, hp⟩ : ∃ p, p = r.take (64 - at_) := ⟨_, rfl⟩
      have HC : Hid (0 < p.length ∧ at_ + p.length ≤ 64 ∧ p.length ≤ r.length ∧ y.bytes p = (if at_ + p.length = 64 then ⟨compress y.st (over y.rest at_ p), over y.rest at_ p, y.n + p.length⟩ else ⟨y.st, over y.rest at_ p, y.n + p.length⟩)) := Lib.hid (by
        have h := chunk y HX.out.ok r hlt
        rw [HAT.out] at h
        rw [hp]; exact h)
      have hfit : (9 + at_) + p.length ≤ (hcells z y.st y.rest y.n).toArray.size := by rw [List.size_toArray, hc_len HX.out.l8 HX.out.l64]; have := HC.out; omega
      have hrun := fun ty => run_copy_row_min (P := Tryz.prog) wr 30 9 ty 5 g (9 + at_) (64 - at_) (64 - at_) r _ _ Tryz.underlying30 u8One HX.out.blk (by rw [← hp]; exact hfit)
      rw [← hp] at hrun
      have HX2 := Lib.hid (Hsh.over HX.out at_ p (by have := HC.out; omega))
      have HW2 := Lib.hid (HW.out.trans (grown_setRow wr g ((hcells z y.st y.rest y.n).toArray.toList.take (9 + at_) ++ p.map U8 ++ (hcells z y.st y.rest y.n).toArray.toList.drop (9 + at_ + p.length)).toArray))
      have HEQ : Hid (r = p ++ r.drop p.length) := Lib.hid (by
        have h2 := HC.out.2.2.1
        rw [hp, List.length_take]
        rcases Nat.le_total (64 - at_) r.length with h | h
        · rw [Nat.min_eq_left h, List.take_append_drop]
        · rw [Nat.min_eq_right h, List.take_of_length_le h, List.drop_length, List.append_nil])
      generalize wr.setRow g ((hcells z y.st y.rest y.n).toArray.toList.take (9 + at_) ++ p.map U8 ++ (hcells z y.st y.rest y.n).toArray.toList.drop (9 + at_ + p.length)).toArray = w2 at hrun HX2 HW2
      clear hp hfit
      have cn2 := HX2.out.c_n
      have fn2 := HX2.out.frozen 73
      have e3 : ((y.n + p.length : Nat) : Int) = (y.n : Int) + (p.length : Int) := by omega
      have HX3 : Hid (Hsh (w2.setCell ⟨g, 73, none⟩ (.int .i64 ((y.n : Int) + (p.length : Int)))) g z y.st (over y.rest at_ p) (y.n + p.length)) := Lib.hid (by rw [← e3]; exact HX2.out.set_n (y.n + p.length))
      have HW3 := Lib.hid (HW2.out.trans (grown_setCell w2 g 73 (.int .i64 ((y.n : Int) + (p.length : Int)))))
      clear e3
      have hpl := HC.out.2.2.1
      have hwr : IntKind.i64.wrap ((y.n : Int) + (p.length : Int)) = ((y.n + p.length : Nat) : Int) := by rw [show (y.n : Int) + (p.length : Int) = ((y.n + p.length : Nat) : Int) by omega]; exact IntWalk.i64_in _ (by omega)
      have hpa := HC.out.2.1
      have hwr2 : IntKind.i64.wrap ((at_ : Int) + (p.length : Int)) = ((at_ + p.length : Nat) : Int) := by rw [show (at_ : Int) + (p.length : Int) = ((at_ + p.length : Nat) : Int) by omega]; exact IntWalk.i64_in _ (by omega)
      have hsl : ∀ wx : World, (Instr.slice 9 (.string ⟨r.toArray⟩) (some (.int .i64 (p.length : Int))) none none).run Tryz.prog wx = .ok (.string ⟨(r.drop p.length).toArray⟩) wx := by
        intro wx
        rw [run_slice_string_from_if wx _ _ _ _ Tryz.underlying9, if_pos ⟨by omega, by simp only [ByteArray.size, List.size_toArray]; omega⟩]
        congr 2
        apply ByteArray.ext
        simp [ByteArray.data_extract, List.extract, ByteArray.size]
        exact List.take_of_length_le (by simp)
      have hsla := sliceRest g at_ (by omega)
      have HBY : Hid (x.bytes (q ++ p) = y.bytes p) := Lib.hid (by rw [HS.bytes_append, ← HY.out])
      have HSQ2 : Hid (s = (q ++ p) ++ r.drop p.length) := Lib.hid (by rw [List.append_assoc, ← HEQ.out]; exact HSQ.out)
      have hms : strSz (.string ⟨(r.drop p.length).toArray⟩) < strSz (.string ⟨r.toArray⟩) := by simp only [strSz, ByteArray.size, List.size_toArray, List.length_drop]; have := HC.out.1; omega
      have HMS := Lib.hid hms
      clear hms
      go_upto_region 2 with fail
      clear cn
      by_cases hf : at_ + p.length = 64
      · have HB4 : Hid (y.bytes p = ⟨compress y.st (over y.rest at_ p), over y.rest at_ p, y.n + p.length⟩) := Lib.hid (by rw [HC.out.2.2.2, if_pos hf])
        have hq : ((at_ : Int) + (p.length : Int) == 64) = true := by simp; omega
        go_wp2_with (refine wpList_copy_at _ rfl _ _ 30 9 rfl _ _ rfl rfl (hrun _) ?_)
        generalize w2.setCell ⟨g, 73, none⟩ (.int .i64 ((y.n : Int) + (p.length : Int))) = w3 at HX3 HW3
        have HK3 := Lib.hid (ktab_grown HK.out HG.out HNE.out HW3.out)
        have HG3 : Hid (1 < w3.heap.size) := Lib.hid (by have := HW3.out.size; have := HG.out; omega)
        refine (block_any g z _ _ _ w3 HX3.out HK3.out HG3.out).mono ?_
        rintro e w4 ⟨rfl, hX4, hW4⟩
        have HX4 : Hid (HshS w4 g z (x.bytes (q ++ p))) := Lib.hid (by rw [HBY.out, HB4.out]; exact hX4)
        have HW4 := Lib.hid (HW3.out.trans hW4)
        clear hX4 hW4
        go_wp2
        exact ⟨⟨q ++ p, r.drop p.length, rfl, HSQ2, HX4, HW4⟩, HMS.out⟩
      · have HB4 : Hid (y.bytes p = ⟨y.st, over y.rest at_ p, y.n + p.length⟩) := Lib.hid (by rw [HC.out.2.2.2, if_neg hf])
        have hq : ((at_ : Int) + (p.length : Int) == 64) = false := by simp; omega
        go_wp2_with (refine wpList_copy_at _ rfl _ _ 30 9 rfl _ _ rfl rfl (hrun _) ?_)
        exact ⟨⟨q ++ p, r.drop p.length, rfl, HSQ2, Lib.hid (by rw [HBY.out, HB4.out]; exact HX3.out), HW3⟩, HMS.out⟩
    · have hr0 : r = [] := List.eq_nil_of_length_eq_zero (by omega)
      subst hr0
      have HP : Hid (WritePost w g z x s (.returned (.tuple #[])) wr) := Lib.hid ⟨rfl, by rw [HSQ.out, List.append_nil]; exact HX.out, HW.out⟩
      go_wp2
      go_end0
      exact HP.out
end Go.Proofs.YtgjelinnpcekmaaGreatDoor
