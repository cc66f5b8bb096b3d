/-
  Parts of the proof: CfSm, CfSn, CfPx, CfWk, Byt.
-/
import Derived.Test.YtjohdaobhonioaaGreatDoorPkFo13
import Derived.Test.YtjohdaobhonioaaGreatDoorPkFo23
import Derived.Test.YtjohdaobhonioaaGreatDoorPkFo6
import Derived.Test.YtjohdaobhonioaaGreatDoorPkFo7
import Derived.Test.YtjohdaobhonioaaGreatDoorPkFo38
import Derived.Test.YtjohdaobhonioaaGreatDoorPkFo39
import Derived.Test.YtjohdaobhonioaaGreatDoorPkFo1
import Derived.Laws.IdiomStrings
import Derived.Laws.BytesString
import Derived.Lib.UnsafeStr
namespace Go.Proofs.YtjohdaobhonioaaGreatDoor
open Go.RowKit
namespace Js.Cf
def SameP (P : Prop) (w : World) (e : Ending) (w' : World) : Prop := ∃ b, e = .returned (.bool b) /\ (b = true ↔ P) /\ Below w.heap.size w w'
theorem SameP.of {P : Prop} {w w' : World} (b : Bool) (h : b = true ↔ P) (hb : Below w.heap.size w w') : SameP P w (.returned (.bool b)) w' := ⟨b, rfl, h, hb⟩
end Js.Cf
end Go.Proofs.YtjohdaobhonioaaGreatDoor
namespace Go.Proofs.YtjohdaobhonioaaGreatDoor
open Go.RowKit
namespace Js.Cf
theorem wpList_load_as {P : Program} {ops : Array Oper} {rest : List Oper} {op : Oper} {a : Act} {w : World} {Q : Exit -> Act -> World -> Prop} (u : Value) (hgd : op.guard = none) (ty : TypeId) (x : Operand) (ho : op.op = .load ty x)
  (g off : Nat) (hx : a.eval x = .pointer (some ⟨g, off, none⟩)) (cs : List Value) (d : TypeDesc) (hr : w.rangeAt g off cs) (hu : P.underlying ty = some d) (hd : d.isRow = true) (hi : (P.info? ty).map (·.size) = some cs.length) (he : Value.agg cs.toArray = u)
  (h : wpList P ops Q rest (a.put op.dst u) w) : wpList P ops Q (op :: rest) a w := by
 subst he
 exact wpList_load_mid hgd ty x ho g off hx cs d hr hu hd hi h
theorem reads_up {w wx : World} {k n : Nat} {A : Option Addr} {xs : List Value} (h : Reads w w.heap.size k A n xs) (hb : Below w.heap.size w wx) : Reads wx wx.heap.size k A n xs := (h.below hb).more hb.size
end Js.Cf
end Go.Proofs.YtjohdaobhonioaaGreatDoor
namespace Go.Proofs.YtjohdaobhonioaaGreatDoor
open Go.RowKit
namespace Js.Cf
def iZ : Img := ⟨⟨[], [], [], [], [], [], []⟩, [], []⟩
def mZ : Mf := ⟨⟨Plain.z32, 0⟩, []⟩
theorem imgR_Z (w : World) (B' : Nat) : ImgR w B' iZ zIm :=
 ⟨none, 0, none, 0, none, 0, none, 0, none, 0, none, 0, none, 0, rfl, Reads.none_, Reads.none_, Reads.none_, Reads.none_, Reads.none_, Reads.none_, Reads.none_, fun d h => by cases h⟩
theorem few_Z : Few iZ := by
 refine ⟨?_, ?_, ?_, ?_, ?_, ?_, ?_, ?_⟩ <;> decide
theorem ok_Z : MfOk mZ := ⟨⟨rfl, by decide, by decide⟩, fun p h => by cases h⟩
theorem ImgR.size {w : World} {B' : Nat} {i : Img} {cs : Array Value} (h : ImgR w B' i cs) : cs.size = 9 := by
 obtain ⟨A1, c1, A2, c2, A3, c3, A4, c4, A5, c5, A6, c6, A7, c7, rfl, _⟩ := h; rfl
theorem ImgR.one {w : World} {B' : Nat} {i : Img} {cs : Array Value} (h : ImgR w B' i cs) : cs.all (·.oneCell') = true := by
 obtain ⟨A1, c1, A2, c2, A3, c3, A4, c4, A5, c5, A6, c6, A7, c7, rfl, _⟩ := h; kernel_rfl
theorem ImgR.info {w : World} {B' : Nat} {i : Img} {cs : Array Value} (h : ImgR w B' i cs) : (Tryz.prog.info? 29).map (·.size) = some cs.size := by rw [h.size]; kernel_rfl
theorem ImgR.up {w w' : World} {i : Img} {cs : Array Value} (h : ImgR w w.heap.size i cs) (hb : Below w.heap.size w w') : ImgR w' w'.heap.size i cs := by
 obtain ⟨A1, c1, A2, c2, A3, c3, A4, c4, A5, c5, A6, c6, A7, c7, e, r1, r2, r3, r4, r5, r6, r7, hd⟩ := h
 exact ⟨A1, c1, A2, c2, A3, c3, A4, c4, A5, c5, A6, c6, A7, c7, e, reads_up r1 hb, reads_up r2 hb, reads_up r3 hb, reads_up r4 hb, reads_up r5 hb, reads_up r6 hb, reads_up r7 hb, hd⟩
def EvI (s : B) (i : Img) (ev : Value) : Prop := (ev = .nilIface /\ progI s = some i) ∨ (ev = errnoV 4 /\ progI s = none)
def EvM (s : B) (m : Mf) (ev : Value) : Prop := (ev = .nilIface /\ progM s = some m) ∨ (ev = errnoV 4 /\ progM s = none)
theorem parseImage_x (s : B) (w : World) (hst : St w) : Calls Tryz.prog 14 #[.string ⟨s.toArray⟩] w fun x w' => ∃ i cs ev, x = .returned (.tuple #[.agg cs, ev]) /\ ImgR w' w'.heap.size i cs /\ Few i /\ EvI s i ev /\ Below w.heap.size w w' := by
 refine (parseImage_any s w hst).mono ?_
 intro x w' hx
 unfold IPost at hx
 cases hp : progI s with
 | none =>
  rw [hp] at hx
  exact ⟨iZ, zIm, _, hx.2, imgR_Z _ _, few_Z, .inr ⟨rfl, hp⟩, hx.1⟩
 | some i =>
  rw [hp] at hx
  obtain ⟨hb, cs, rfl, ho, hf⟩ := hx
  exact ⟨i, cs, _, rfl, ho.reads, hf, .inl ⟨rfl, hp⟩, hb⟩
theorem parseManifest_x (s : B) (w : World) (hst : St w) : Calls Tryz.prog 17 #[.string ⟨s.toArray⟩] w fun x w' => ∃ m A c ev, x = .returned (.tuple #[.agg (pcV m.cfg ++ [Value.slice A m.layers.length c]).toArray, ev]) /\ Reads w' w'.heap.size 33 A m.layers.length (pcC m.layers) /\ MfOk m /\ m.layers.length ≤ 4194304 /\ EvM s m ev /\ Below w.heap.size w w' := by
 refine (parseManifest_any s w hst).mono ?_
 intro x w' hx
 unfold MPost at hx
 cases hp : progM s with
 | none =>
  rw [hp] at hx
  exact ⟨mZ, none, 0, _, hx.2, Reads.none_, ok_Z, by decide, .inr ⟨rfl, hp⟩, hx.1⟩
 | some m =>
  rw [hp] at hx
  obtain ⟨hb, lv, rfl, ho, hok, hl⟩ := hx
  obtain ⟨A, c, rfl, hr⟩ := own_readsN ho
  exact ⟨m, A, c, _, rfl, hr, hok, hl, .inl ⟨rfl, hp⟩, hb⟩
theorem img_more {s x : B} {i : Img} (h : progI s = some i) (hx : x ≠ []) : progI (s ++ x) = none := by
 cases hp : progI (s ++ x) with
 | none => rfl
 | some j => rw [img_heads hp hx] at h; cases h
theorem img_less {s : B} {i : Img} (h : progI s = some i) {k : Nat} (hk : k < s.length) : progI (s.take k) = none :=
 img_heads (p := s.take k) (x := s.drop k) (by rw [List.take_append_drop]; exact h) (by intro e; have := congrArg List.length e; rw [List.length_drop] at this; simp at this; omega)
theorem mf_more {s x : B} {m : Mf} (h : progM s = some m) (hx : x ≠ []) : progM (s ++ x) = none := by
 cases hp : progM (s ++ x) with
 | none => rfl
 | some j => rw [mf_heads hp hx] at h; cases h
theorem mf_less {s : B} {m : Mf} (h : progM s = some m) {k : Nat} (hk : k < s.length) : progM (s.take k) = none :=
 mf_heads (p := s.take k) (x := s.drop k) (by rw [List.take_append_drop]; exact h) (by intro e; have := congrArg List.length e; rw [List.length_drop] at this; simp at this; omega)
structure NilQ (E : Value) (z : Bool) : Prop where
 eq : ∀ wx : World, (binOp .eql 32 E .nilIface).run Tryz.prog wx = .ok (.bool z) wx
 ne : ∀ wx : World, (binOp .neq 32 E .nilIface).run Tryz.prog wx = .ok (.bool (!z)) wx
 ge : ∀ (o : Operand) (wx : World), (eqGuard .eql 32 o (.const .nilIface) E .nilIface).run Tryz.prog wx = .ok () wx
 gn : ∀ (o : Operand) (wx : World), (eqGuard .neq 32 o (.const .nilIface) E .nilIface).run Tryz.prog wx = .ok () wx
theorem nilQ_nil : NilQ .nilIface true := ⟨fun wx => by go_simp, fun wx => by go_simp, fun o wx => by unfold eqGuard; simp, fun o wx => by unfold eqGuard; simp⟩
theorem nilQ_no (n : Nat) : NilQ (errnoV n) false := ⟨fun wx => by unfold errnoV; go_simp, fun wx => by unfold errnoV; go_simp, fun o wx => by unfold errnoV eqGuard; simp, fun o wx => by unfold errnoV eqGuard; simp⟩
theorem evI_q {s : B} {i : Img} {ev : Value} (h : EvI s i ev) : ∃ z, NilQ ev z /\ (z = true -> ev = .nilIface /\ progI s = some i) /\ (z = false -> ev = errnoV 4 /\ progI s = none) := by
 rcases h with ⟨rfl, h⟩ | ⟨rfl, h⟩
 . exact ⟨true, nilQ_nil, fun _ => ⟨rfl, h⟩, fun e => (by cases e)⟩
 . exact ⟨false, nilQ_no 4, fun e => (by cases e), fun _ => ⟨rfl, h⟩⟩
theorem evM_q {s : B} {m : Mf} {ev : Value} (h : EvM s m ev) : ∃ z, NilQ ev z /\ (z = true -> ev = .nilIface /\ progM s = some m) /\ (z = false -> ev = errnoV 4 /\ progM s = none) := by
 rcases h with ⟨rfl, h⟩ | ⟨rfl, h⟩
 . exact ⟨true, nilQ_nil, fun _ => ⟨rfl, h⟩, fun e => (by cases e)⟩
 . exact ⟨false, nilQ_no 4, fun e => (by cases e), fun _ => ⟨rfl, h⟩⟩
end Js.Cf
end Go.Proofs.YtjohdaobhonioaaGreatDoor
namespace Go.Proofs.YtjohdaobhonioaaGreatDoor
open Go.RowKit
namespace Js.Cf
def tImg : B := [123, 34, 97, 114, 99, 104, 105, 116, 101, 99, 116, 117, 114, 101, 34, 58, 34, 97, 109, 100, 54, 52, 34, 44, 34, 99, 111, 110, 102, 105, 103, 34, 58, 123, 34, 87, 111, 114, 107, 105, 110, 103, 68, 105, 114, 34, 58, 34, 47, 34, 125, 44, 34, 104, 105, 115, 116, 111, 114, 121, 34, 58, 91, 93, 44, 34, 111, 115, 34, 58, 34, 108, 105, 110, 117, 120, 34, 44, 34, 114, 111, 111, 116, 102, 115, 34, 58, 123, 34, 100, 105, 102, 102, 95, 105, 100, 115, 34, 58, 91, 93, 44, 34, 116, 121, 112, 101, 34, 58, 34, 108, 97, 121, 101, 114, 115, 34, 125, 125]
def tMf : B := [123, 34, 99, 111, 110, 102, 105, 103, 34, 58, 123, 34, 100, 105, 103, 101, 115, 116, 34, 58, 34, 115, 104, 97, 50, 53, 54, 58, 48, 48, 48, 48, 48, 48, 48, 48, 48, 48, 48, 48, 48, 48, 48, 48, 48, 48, 48, 48, 48, 48, 48, 48, 48, 48, 48, 48, 48, 48, 48, 48, 48, 48, 48, 48, 48, 48, 48, 48, 48, 48, 48, 48, 48, 48, 48, 48, 48, 48, 48, 48, 48, 48, 48, 48, 48, 48, 48, 48, 48, 48, 48, 48, 34, 44, 34, 109, 101, 100, 105, 97, 84, 121, 112, 101, 34, 58, 34, 97, 112, 112, 108, 105, 99, 97, 116, 105, 111, 110, 47, 118, 110, 100, 46, 111, 99, 105, 46, 105, 109, 97, 103, 101, 46, 99, 111, 110, 102, 105, 103, 46, 118, 49, 43, 106, 115, 111, 110, 34, 44, 34, 115, 105, 122, 101, 34, 58, 48, 125, 44, 34, 108, 97, 121, 101, 114, 115, 34, 58, 91, 93, 44, 34, 109, 101, 100, 105, 97, 84, 121, 112, 101, 34, 58, 34, 97, 112, 112, 108, 105, 99, 97, 116, 105, 111, 110, 47, 118, 110, 100, 46, 111, 99, 105, 46, 105, 109, 97, 103, 101, 46, 109, 97, 110, 105, 102, 101, 115, 116, 46, 118, 49, 43, 106, 115, 111, 110, 34, 44, 34, 115, 99, 104, 101, 109, 97, 86, 101, 114, 115, 105, 111, 110, 34, 58, 50, 125]
def iD : Img := ⟨⟨[], [47], [], [], [], [], []⟩, [], []⟩
def mD : Mf := ⟨⟨Plain.z32, 0⟩, []⟩
theorem img_D : imgP iD = (tImg, 0) := by decide +kernel
theorem mf_D : mfP mD = (tMf, 0) := by decide +kernel
theorem progI_D : progI tImg = some iD := prog_back (fun d h => by cases h) img_D
theorem ok_D : MfOk mD := ⟨⟨rfl, by decide, by decide⟩, fun p h => by cases h⟩
theorem progM_D : progM tMf = some mD := progM_back ok_D (by rw [<- mf_same ok_D]; exact mf_D)
theorem built_cD : Tryz.prog.built 25 [(1, .string ⟨#[47]⟩)] = some #[.slice none 0 0, .string ⟨#[47]⟩, .string ⟨#[]⟩, .slice none 0 0, .slice none 0 0, .slice none 0 0, .slice none 0 0] := by kernel_rfl
theorem built_iD : Tryz.prog.built 29 [(0, .agg #[.slice none 0 0, .string ⟨#[47]⟩, .string ⟨#[]⟩, .slice none 0 0, .slice none 0 0, .slice none 0 0, .slice none 0 0])] = some #[.slice none 0 0, .string ⟨#[47]⟩, .string ⟨#[]⟩, .slice none 0 0, .slice none 0 0, .slice none 0 0, .slice none 0 0, .slice none 0 0, .slice none 0 0] := by kernel_rfl
theorem imgR_D (w : World) : ImgR w w.heap.size iD #[.slice none 0 0, .string ⟨#[47]⟩, .string ⟨#[]⟩, .slice none 0 0, .slice none 0 0, .slice none 0 0, .slice none 0 0, .slice none 0 0, .slice none 0 0] :=
 ⟨none, 0, none, 0, none, 0, none, 0, none, 0, none, 0, none, 0, rfl, Reads.none_, Reads.none_, Reads.none_, Reads.none_, Reads.none_, Reads.none_, Reads.none_, fun d h => by cases h⟩
theorem few_D : Few iD := by
 refine ⟨?_, ?_, ?_, ?_, ?_, ?_, ?_, ?_⟩ <;> decide
set_option maxHeartbeats 4000000 in
set_option maxRecDepth 100000 in
theorem works_any (w : World) (hst : St w) : Calls Tryz.prog 13 #[] w fun x w' => x = .returned (.bool true) /\ Below w.heap.size w w' := by
 have HST := Lib.hid hst
 clear hst
 have hbc := built_cD
 have hbi := built_iD
 have HI1 := Lib.hid (image_any iD _ w (imgR_D w) few_D HST.out)
 go_enter Tryz.func13, Tryz.ntmps13
 go_upto_region 2 with (first | refine wpList_build_to rfl 25 _ rfl [(1, .string ⟨#[47]⟩)] (by simp only [List.map_toArray, List.map_cons, List.map_nil]; rfl) _ hbc ?_ | refine wpList_build_to rfl 29 _ rfl [(0, .agg #[.slice none 0 0, .string ⟨#[47]⟩, .string ⟨#[]⟩, .slice none 0 0, .slice none 0 0, .slice none 0 0, .slice none 0 0])] (by simp only [List.map_toArray, List.map_cons, List.map_nil]; rfl) _ hbi ?_)
 refine HI1.out.mono ?_
 rintro x w1 ⟨rfl, h1⟩
 rw [img_D, show errV (tImg, 0).2 = Value.nilIface from rfl, show (tImg, 0).1 = tImg from rfl]
 have HW1 := Lib.hid h1
 clear HI1 hbc hbi h1
 have HI2 := Lib.hid (manifest_any mD none 0 w1 ok_D Reads.none_ (by decide) (HST.out.below HW1.out))
 go_upto_region 3 with (refine wpList_build_as rfl 45 _ rfl zMf run_empty_manifest ?_)
 refine HI2.out.mono ?_
 rintro x w2 ⟨rfl, h2⟩
 rw [mf_D, show errV (tMf, 0).2 = Value.nilIface from rfl, show (tMf, 0).1 = tMf from rfl]
 have HW2 : Hid (Below w.heap.size w w2) := Lib.hid (HW1.out.trans (h2.mono HW1.out.size))
 clear HI2 HW1 h2
 have HI3 := Lib.hid (parseImage_any tImg w2 (HST.out.below HW2.out))
 go_upto_region 4 with fail
 refine HI3.out.mono ?_
 intro x w3 hx
 unfold IPost at hx
 rw [progI_D] at hx
 obtain ⟨h3, cs, rfl, him, _⟩ := hx
 obtain ⟨A1, c1, A2, c2, A3, c3, A4, c4, A5, c5, A6, c6, A7, c7, rfl, _, _⟩ := him
 have HW3 : Hid (Below w.heap.size w w3) := Lib.hid (HW2.out.trans (h3.mono HW2.out.size))
 clear HI3 HW2 h3
 rw [show iD.cfg.env.length = 0 from rfl, show iD.cfg.ports.length = 0 from rfl, show iD.cfg.labels.length = 0 from rfl, show iD.cfg.cmd.length = 0 from rfl, show iD.cfg.entry.length = 0 from rfl, show iD.past.length = 0 from rfl, show iD.diffs.length = 0 from rfl, show iD.cfg.dir.toArray = #[47] from rfl, show iD.cfg.user.toArray = #[] from rfl]
 have hoi : (#[.slice A1 0 c1, .string ⟨#[47]⟩, .string ⟨#[]⟩, .slice A2 0 c2, .slice A3 0 c3, .slice A4 0 c4, .slice A5 0 c5, .slice A6 0 c6, .slice A7 0 c7] : Array Value).all (·.oneCell') = true := by kernel_rfl
 have hii : (Tryz.prog.info? 29).map (·.size) = some (#[.slice A1 0 c1, .string ⟨#[47]⟩, .string ⟨#[]⟩, .slice A2 0 c2, .slice A3 0 c3, .slice A4 0 c4, .slice A5 0 c5, .slice A6 0 c6, .slice A7 0 c7] : Array Value).size := by kernel_rfl
 go_upto_region 4 with (refine wpList_store_row rfl 29 _ _ rfl _ _ rfl rfl 29 _ (heap_alloc_new _ _) hii rfl hoi ?_)
 rw [alloc_setRow]
 obtain ⟨b3, hb3⟩ : ∃ b3, b3 = w3.heap.size := ⟨_, rfl⟩
 obtain ⟨w4, hw4⟩ : ∃ w4, w4 = w3.alloc (.cells #[.slice A1 0 c1, .string ⟨#[47]⟩, .string ⟨#[]⟩, .slice A2 0 c2, .slice A3 0 c3, .slice A4 0 c4, .slice A5 0 c5, .slice A6 0 c6, .slice A7 0 c7] 29) := ⟨_, rfl⟩
 have HBI : Hid (Blk w4 b3 29 #[.slice A1 0 c1, .string ⟨#[47]⟩, .string ⟨#[]⟩, .slice A2 0 c2, .slice A3 0 c3, .slice A4 0 c4, .slice A5 0 c5, .slice A6 0 c6, .slice A7 0 c7]) := Lib.hid (by rw [hw4, hb3]; exact Blk.new _ _ _)
 have HW4 : Hid (Below w.heap.size w w4) := Lib.hid (by rw [hw4]; exact HW3.out.alloc HW3.out.size _)
 rw [<- hw4, <- hb3]
 clear hw4 hb3 hoi hii HW3
 have HI4 := Lib.hid (parseManifest_any tMf w4 (HST.out.below HW4.out))
 go_upto_region 5 with fail
 refine HI4.out.mono ?_
 intro x w5 hx
 unfold MPost at hx
 rw [progM_D] at hx
 obtain ⟨h5, lv, rfl, ho, _, _⟩ := hx
 obtain ⟨A8, c8, rfl, _⟩ := own_readsN ho
 rw [show mD.layers.length = 0 from rfl]
 have HBI5 := Lib.hid (HBI.out.below h5 HBI.out.lt)
 have HW5 : Hid (Below w.heap.size w w5 /\ b3 < w5.heap.size) := Lib.hid ⟨HW4.out.trans (h5.mono HW4.out.size), HBI5.out.lt⟩
 clear HI4 HW4 h5 ho HBI
 obtain ⟨p, hp⟩ : ∃ p, p = pcV mD.cfg := ⟨_, rfl⟩
 have HPL : Hid (p.length = 33 /\ p.toArray.all (·.oneCell') = true) := Lib.hid (by rw [hp]; exact ⟨rfl, one_piece _ _⟩)
 rw [<- hp]
 clear hp
 go_upto_region 5 with (refine wpList_store_row rfl 45 _ _ rfl _ _ rfl rfl 45 _ (heap_alloc_new _ _) (infoMx p HPL.out.1 _) (by exact (size34 HPL.out.1 _).symm) (one_app HPL.out.2) ?_)
 rw [alloc_setRow]
 obtain ⟨b5, hb5⟩ : ∃ b5, b5 = w5.heap.size := ⟨_, rfl⟩
 obtain ⟨w6, hw6⟩ : ∃ w6, w6 = w5.alloc (.cells (p ++ [Value.slice A8 0 c8]).toArray 45) := ⟨_, rfl⟩
 have HBM : Hid (Blk w6 b5 45 (p ++ [Value.slice A8 0 c8]).toArray) := Lib.hid (by rw [hw6, hb5]; exact Blk.new _ _ _)
 have HBI6 : Hid (Blk w6 b3 29 #[.slice A1 0 c1, .string ⟨#[47]⟩, .string ⟨#[]⟩, .slice A2 0 c2, .slice A3 0 c3, .slice A4 0 c4, .slice A5 0 c5, .slice A6 0 c6, .slice A7 0 c7]) := Lib.hid (by rw [hw6]; exact HBI5.out.alloc _)
 have HW6 : Hid (Below w.heap.size w w6) := Lib.hid (by rw [hw6]; exact HW5.out.1.alloc HW5.out.1.size _)
 rw [<- hw6, <- hb5]
 clear hw6 hb5 HBI5 HW5
 have k1 := HBI6.out.cell 1
 have k2 : w6.cell? ⟨b5, 33, none⟩ = some (.slice A8 0 c8) := by rw [HBM.out.cell]; exact mf_cell HPL.out.1 _
 unfold tImg tMf
 go_wp2_with fail
 go_ret
 exact ⟨rfl, HW6.out⟩
end Js.Cf
end Go.Proofs.YtjohdaobhonioaaGreatDoor
namespace Go.Proofs.YtjohdaobhonioaaGreatDoor
open Go.RowKit
theorem byteCells_get {l : List UInt8} {j : Nat} (h : j < l.length) : (Lib.byteCells l)[j]? = some (.int .u8 (l[j].toNat : Int)) := by
 simp [Lib.byteCells, List.getElem?_eq_getElem h]
theorem byteCells_len (l : List UInt8) : (Lib.byteCells l).length = l.length := by simp [Lib.byteCells]
theorem run_convert_reads {P : Program} {src dst e : TypeId} (hs : P.underlying src = some (.slice e)) (he : P.underlying e = some (.int .u8)) (hd : P.underlying dst = some .string)
   {w : World} {B n : Nat} {A : Option Addr} (c : Nat) {l : List UInt8} (hr : Reads w B 1 A n (Lib.byteCells l)) :
   (convert src dst (.slice A n c)).run P w = .ok (.string ⟨l.toArray⟩) w := by
 have hn : l.length = n := by have := hr.1; rw [byteCells_len] at this; omega
 subst hn
 rcases Nat.eq_zero_or_pos l.length with h0 | h0
 . have : l = [] := List.length_eq_zero_iff.1 h0
   subst this
   rcases A with _ | a
   . rw [show (List.length ([] : List UInt8)) = 0 from rfl, run_convert_bytes_string w src dst e none 0 c hs he hd]
     simp [Conv.bytesToString]
     rfl
   . exact run_convert_bytes_back w src dst e a c [] hs he hd (fun j hj => absurd hj (by simp))
 . obtain ⟨ad, rfl, _, hc⟩ := hr.2 h0
   exact run_convert_bytes_back w src dst e ad c l hs he hd (fun j hj => hc j _ (byteCells_get hj))
end Go.Proofs.YtjohdaobhonioaaGreatDoor
