/-
  Parts of the proof: CfWk, CfSm, CfSn.
-/
import Derived.Test.YtjohdaobhonioaaGreatDoorPkBm37
import Derived.Test.YtjohdaobhonioaaGreatDoorPkBm38
import Derived.Test.YtjohdaobhonioaaGreatDoorPkBm13
import Derived.Test.YtjohdaobhonioaaGreatDoorPkBm22
import Derived.Test.YtjohdaobhonioaaGreatDoorPkBm6
import Derived.Test.YtjohdaobhonioaaGreatDoorPkBm7
namespace Go.Proofs.YtjohdaobhonioaaGreatDoor
open Go.RowKit
namespace Js.Cf
def tImg : B := [123, 34, 97, 114, 99, 104, 105, 116, 101, 99, 116, 117, 114, 101, 34, 58, 34, 97, 109, 100, 54, 52, 34, 44, 34, 99, 111, 110, 102, 105, 103, 34, 58, 123, 34, 87, 111, 114, 107, 105, 110, 103, 68, 105, 114, 34, 58, 34, 47, 34, 125, 44, 34, 104, 105, 115, 116, 111, 114, 121, 34, 58, 91, 93, 44, 34, 111, 115, 34, 58, 34, 108, 105, 110, 117, 120, 34, 44, 34, 114, 111, 111, 116, 102, 115, 34, 58, 123, 34, 100, 105, 102, 102, 95, 105, 100, 115, 34, 58, 91, 93, 44, 34, 116, 121, 112, 101, 34, 58, 34, 108, 97, 121, 101, 114, 115, 34, 125, 125]
def tMf : B := [123, 34, 99, 111, 110, 102, 105, 103, 34, 58, 123, 34, 100, 105, 103, 101, 115, 116, 34, 58, 34, 115, 104, 97, 50, 53, 54, 58, 48, 48, 48, 48, 48, 48, 48, 48, 48, 48, 48, 48, 48, 48, 48, 48, 48, 48, 48, 48, 48, 48, 48, 48, 48, 48, 48, 48, 48, 48, 48, 48, 48, 48, 48, 48, 48, 48, 48, 48, 48, 48, 48, 48, 48, 48, 48, 48, 48, 48, 48, 48, 48, 48, 48, 48, 48, 48, 48, 48, 48, 48, 48, 48, 34, 44, 34, 109, 101, 100, 105, 97, 84, 121, 112, 101, 34, 58, 34, 97, 112, 112, 108, 105, 99, 97, 116, 105, 111, 110, 47, 118, 110, 100, 46, 111, 99, 105, 46, 105, 109, 97, 103, 101, 46, 99, 111, 110, 102, 105, 103, 46, 118, 49, 43, 106, 115, 111, 110, 34, 44, 34, 115, 105, 122, 101, 34, 58, 48, 125, 44, 34, 108, 97, 121, 101, 114, 115, 34, 58, 91, 93, 44, 34, 109, 101, 100, 105, 97, 84, 121, 112, 101, 34, 58, 34, 97, 112, 112, 108, 105, 99, 97, 116, 105, 111, 110, 47, 118, 110, 100, 46, 111, 99, 105, 46, 105, 109, 97, 103, 101, 46, 109, 97, 110, 105, 102, 101, 115, 116, 46, 118, 49, 43, 106, 115, 111, 110, 34, 44, 34, 115, 99, 104, 101, 109, 97, 86, 101, 114, 115, 105, 111, 110, 34, 58, 50, 125]
def iD : Img := ⟨⟨[], [47], [], [], [], [], []⟩, [], []⟩
def mD : Mf := ⟨⟨Plain.z32, 0⟩, []⟩
theorem img_D : imgP iD = (tImg, 0) := by decide +kernel
theorem mf_D : mfP mD = (tMf, 0) := by decide +kernel
theorem progI_D : progI tImg = some iD := prog_back (fun d h => by cases h) img_D
theorem ok_D : MfOk mD := ⟨⟨rfl, by decide, by decide⟩, fun p h => by cases h⟩
theorem progM_D : progM tMf = some mD := progM_back ok_D (by rw [← mf_same ok_D]; exact mf_D)
theorem built_cD : Tryz.prog.built 25 [(1, .string ⟨#[47]⟩)] = some #[.slice none 0 0, .string ⟨#[47]⟩, .string ⟨#[]⟩, .slice none 0 0, .slice none 0 0, .slice none 0 0, .slice none 0 0] := by kernel_rfl
theorem built_iD : Tryz.prog.built 29 [(0, .agg #[.slice none 0 0, .string ⟨#[47]⟩, .string ⟨#[]⟩, .slice none 0 0, .slice none 0 0, .slice none 0 0, .slice none 0 0])] = some #[.slice none 0 0, .string ⟨#[47]⟩, .string ⟨#[]⟩, .slice none 0 0, .slice none 0 0, .slice none 0 0, .slice none 0 0, .slice none 0 0, .slice none 0 0] := by kernel_rfl
theorem imgR_D (w : World) : ImgR w w.heap.size iD #[.slice none 0 0, .string ⟨#[47]⟩, .string ⟨#[]⟩, .slice none 0 0, .slice none 0 0, .slice none 0 0, .slice none 0 0, .slice none 0 0, .slice none 0 0] :=
 ⟨none, 0, none, 0, none, 0, none, 0, none, 0, none, 0, none, 0, rfl, Reads.none_, Reads.none_, Reads.none_, Reads.none_, Reads.none_, Reads.none_, Reads.none_, fun d h => by cases h⟩
theorem few_D : Few iD := by
 refine ⟨?_, ?_, ?_, ?_, ?_, ?_, ?_, ?_⟩ <;> decide
set_option maxHeartbeats 4000000 in
set_option maxRecDepth 100000 in
theorem works_any (w : World) (hst : St w) : Calls Tryz.prog 13 #[] w fun x w' => x = .returned (.bool true) ∧ Below w.heap.size w w' := by
 have HST := Lib.hid hst
 clear hst
 have hbc := built_cD
 have hbi := built_iD
 have HI1 := Lib.hid (image_any iD _ w (imgR_D w) few_D HST.out)
 go_enter Tryz.func13, Tryz.ntmps13
 go_upto_region 2 with (first | refine wpList_build_to rfl 25 _ rfl [(1, .string ⟨#[47]⟩)] (by simp only [List.map_toArray, List.map_cons, List.map_nil]; rfl) _ hbc ?_ | refine wpList_build_to rfl 29 _ rfl [(0, .agg #[.slice none 0 0, .string ⟨#[47]⟩, .string ⟨#[]⟩, .slice none 0 0, .slice none 0 0, .slice none 0 0, .slice none 0 0])] (by simp only [List.map_toArray, List.map_cons, List.map_nil]; rfl) _ hbi ?_)
 refine HI1.out.mono ?_
 rintro x w1 ⟨rfl, h1⟩
 rw [img_D, show errV (tImg, 0).2 = Value.nilIface from rfl, show (tImg, 0).1 = tImg from rfl]
 have HW1 := Lib.hid h1
 clear HI1 hbc hbi h1
 have HI2 := Lib.hid (manifest_any mD none 0 w1 ok_D Reads.none_ (by decide) (HST.out.below HW1.out))
 go_upto_region 3 with (refine wpList_build_as rfl 45 _ rfl zMf run_empty_manifest ?_)
 refine HI2.out.mono ?_
 rintro x w2 ⟨rfl, h2⟩
 rw [mf_D, show errV (tMf, 0).2 = Value.nilIface from rfl, show (tMf, 0).1 = tMf from rfl]
 have HW2 : Hid (Below w.heap.size w w2) := Lib.hid (HW1.out.trans (h2.mono HW1.out.size))
 clear HI2 HW1 h2
 have HI3 := Lib.hid (parseImage_any tImg w2 (HST.out.below HW2.out))
 go_upto_region 4 with fail
 refine HI3.out.mono ?_
 intro x w3 hx
 unfold IPost at hx
 rw [progI_D] at hx
 obtain ⟨h3, cs, rfl, him, _⟩ := hx
 obtain ⟨A1, c1, A2, c2, A3, c3, A4, c4, A5, c5, A6, c6, A7, c7, rfl, _, _⟩ := him
 have HW3 : Hid (Below w.heap.size w w3) := Lib.hid (HW2.out.trans (h3.mono HW2.out.size))
 clear HI3 HW2 h3
 rw [show iD.cfg.env.length = 0 from rfl, show iD.cfg.ports.length = 0 from rfl, show iD.cfg.labels.length = 0 from rfl, show iD.cfg.cmd.length = 0 from rfl, show iD.cfg.entry.length = 0 from rfl, show iD.past.length = 0 from rfl, show iD.diffs.length = 0 from rfl, show iD.cfg.dir.toArray = #[47] from rfl, show iD.cfg.user.toArray = #[] from rfl]
 have hoi : (#[.slice A1 0 c1, .string ⟨#[47]⟩, .string ⟨#[]⟩, .slice A2 0 c2, .slice A3 0 c3, .slice A4 0 c4, .slice A5 0 c5, .slice A6 0 c6, .slice A7 0 c7] : Array Value).all (·.oneCell') = true := by kernel_rfl
 have hii : (Tryz.prog.info? 29).map (·.size) = some (#[.slice A1 0 c1, .string ⟨#[47]⟩, .string ⟨#[]⟩, .slice A2 0 c2, .slice A3 0 c3, .slice A4 0 c4, .slice A5 0 c5, .slice A6 0 c6, .slice A7 0 c7] : Array Value).size := by kernel_rfl
 go_upto_region 4 with (refine wpList_store_row rfl 29 _ _ rfl _ _ rfl rfl 29 _ (heap_alloc_new _ _) hii rfl hoi ?_)
 rw [alloc_setRow]
 obtain ⟨b3, hb3⟩ : ∃ b3, b3 = w3.heap.size := ⟨_, rfl⟩
 obtain ⟨w4, hw4⟩ : ∃ w4, w4 = w3.alloc (.cells #[.slice A1 0 c1, .string ⟨#[47]⟩, .string ⟨#[]⟩, .slice A2 0 c2, .slice A3 0 c3, .slice A4 0 c4, .slice A5 0 c5, .slice A6 0 c6, .slice A7 0 c7] 29) := ⟨_, rfl⟩
 have HBI : Hid (Blk w4 b3 29 #[.slice A1 0 c1, .string ⟨#[47]⟩, .string ⟨#[]⟩, .slice A2 0 c2, .slice A3 0 c3, .slice A4 0 c4, .slice A5 0 c5, .slice A6 0 c6, .slice A7 0 c7]) := Lib.hid (by rw [hw4, hb3]; exact Blk.new _ _ _)
 have HW4 : Hid (Below w.heap.size w w4) := Lib.hid (by rw [hw4]; exact HW3.out.alloc HW3.out.size _)
 rw [← hw4, ← hb3]
 clear hw4 hb3 hoi hii HW3
 have HI4 := Lib.hid (parseManifest_any tMf w4 (HST.out.below HW4.out))
 go_upto_region 5 with fail
 refine HI4.out.mono ?_
 intro x w5 hx
 unfold MPost at hx
 rw [progM_D] at hx
 obtain ⟨h5, lv, rfl, ho, _, _⟩ := hx
 obtain ⟨A8, c8, rfl, _⟩ := own_readsN ho
 rw [show mD.layers.length = 0 from rfl]
 have HBI5 := Lib.hid (HBI.out.below h5 HBI.out.lt)
 have HW5 : Hid (Below w.heap.size w w5 ∧ b3 < w5.heap.size) := Lib.hid ⟨HW4.out.trans (h5.mono HW4.out.size), HBI5.out.lt⟩
 clear HI4 HW4 h5 ho HBI
 obtain ⟨p, hp⟩ : ∃ p, p = pcV mD.cfg := ⟨_, rfl⟩
 have HPL : Hid (p.length = 33 ∧ p.toArray.all (·.oneCell') = true) := Lib.hid (by rw [hp]; exact ⟨rfl, one_piece _ _⟩)
 rw [← hp]
 clear hp
 go_upto_region 5 with (refine wpList_store_row rfl 45 _ _ rfl _ _ rfl rfl 45 _ (heap_alloc_new _ _) (infoMx p HPL.out.1 _) (by exact (size34 HPL.out.1 _).symm) (one_app HPL.out.2) ?_)
 rw [alloc_setRow]
 obtain ⟨b5, hb5⟩ : ∃ b5, b5 = w5.heap.size := ⟨_, rfl⟩
 obtain ⟨w6, hw6⟩ : ∃ w6, w6 = w5.alloc (.cells (p ++ [Value.slice A8 0 c8]).toArray 45) := ⟨_, rfl⟩
 have HBM : Hid (Blk w6 b5 45 (p ++ [Value.slice A8 0 c8]).toArray) := Lib.hid (by rw [hw6, hb5]; exact Blk.new _ _ _)
 have HBI6 : Hid (Blk w6 b3 29 #[.slice A1 0 c1, .string ⟨#[47]⟩, .string ⟨#[]⟩, .slice A2 0 c2, .slice A3 0 c3, .slice A4 0 c4, .slice A5 0 c5, .slice A6 0 c6, .slice A7 0 c7]) := Lib.hid (by rw [hw6]; exact HBI5.out.alloc _)
 have HW6 : Hid (Below w.heap.size w w6) := Lib.hid (by rw [hw6]; exact HW5.out.1.alloc HW5.out.1.size _)
 rw [← hw6, ← hb5]
 clear hw6 hb5 HBI5 HW5
 have k1 := HBI6.out.cell 1
 have k2 : w6.cell? ⟨b5, 33, none⟩ = some (.slice A8 0 c8) := by rw [HBM.out.cell]; exact mf_cell HPL.out.1 _
 unfold tImg tMf
 go_wp2_with fail
 go_ret
 exact ⟨rfl, HW6.out⟩
end Js.Cf
end Go.Proofs.YtjohdaobhonioaaGreatDoor
namespace Go.Proofs.YtjohdaobhonioaaGreatDoor
open Go.RowKit
namespace Js.Cf
def NeqB (t : TypeId) (x y : Value) (b : Bool) : Prop := (∀ wx, (binOp .neq t x y).run Tryz.prog wx = .ok (.bool b) wx) ∧ ∀ p q wx, (eqGuard .neq t p q x y).run Tryz.prog wx = .ok () wx
def SameP (P : Prop) (w : World) (e : Ending) (w' : World) : Prop := ∃ b, e = .returned (.bool b) ∧ (b = true ↔ P) ∧ Below w.heap.size w w'
theorem SameP.of {P : Prop} {w w' : World} (b : Bool) (h : b = true ↔ P) (hb : Below w.heap.size w w') : SameP P w (.returned (.bool b)) w' := ⟨b, rfl, h, hb⟩
theorem stoodPiece : Tryz.prog.stoodInHeld 42 = false := by kernel_rfl
theorem guardPiece : Tryz.prog.eqGuardType Tryz.prog.depth 42 = false := by kernel_rfl
theorem eqIn_bytes {P : Program} {T e n : Nat} {i : TypeInfo} (hT : P.underlying T = some (.array n e)) (he : P.underlying e = some (.int .u8)) (hi : P.cellsOf e = 1) (hq : P.info? e = some i) (d : Nat) (a b : B) (ha : a.length = n) (hb : b.length = n) (w : World) :
   (Op.equalIn (d + 2) T (.agg (Lib.byteCells a).toArray) (.agg (Lib.byteCells b).toArray)).run P w = .ok (decide (a = b)) w := by
 rw [run_equalIn_array w (d + 1) _ _ hT hq, eqItems_bytes e he hi a b w d _ (fun i h => by simp at h; omega)]
 congr 1
 rw [decide_eq_decide]
 constructor
 · intro h
   apply List.ext_getElem (by omega)
   intro i h1 h2
   have := h i (by simp; omega)
   simpa [List.getD, List.getElem?_eq_getElem h1, List.getElem?_eq_getElem h2] using this
 · intro h _ _; rw [h]
theorem eqIn_dig (d : Nat) (a b : B) (ha : a.length = 32) (hb : b.length = 32) (w : World) : (Op.equalIn (d + 2) 40 (.agg (Lib.byteCells a).toArray) (.agg (Lib.byteCells b).toArray)).run Tryz.prog w = .ok (decide (a = b)) w := by
 obtain ⟨i, hq⟩ := info_of_underlying Tryz.underlying5
 exact eqIn_bytes Tryz.underlying40 Tryz.underlying5 (by kernel_rfl) hq d a b ha hb w
theorem fieldsP0 : (Tryz.prog.fieldsOf 42).toList.map (fun f => (f.name, f.type, f.offset)) = [("Digest", 40, 0), ("Size", 2, 32)] := by kernel_rfl
theorem fieldsPiece : ∃ a b, (Tryz.prog.fieldsOf 42).toList = [a, b] ∧ a.name ≠ "_" ∧ b.name ≠ "_" ∧ a.type = 40 ∧ a.offset = 0 ∧ b.type = 2 ∧ b.offset = 32 := by
 have h := fieldsP0
 generalize (Tryz.prog.fieldsOf 42).toList = l at h
 rcases l with _ | ⟨a, _ | ⟨b, _ | ⟨x, r⟩⟩⟩
 · cases h
 · simp at h
 · simp only [List.map_cons, List.map_nil, List.cons.injEq, Prod.mk.injEq, and_true] at h
   obtain ⟨⟨h1, h2, h3⟩, h4, h5, h6⟩ := h
   exact ⟨a, b, rfl, by rw [h1]; decide, by rw [h4]; decide, h2, h3, h5, h6⟩
 · simp at h
theorem part_dig (p : Pc) (hp : p.dig.length = 32) (w : World) : (part 40 (pcV p).toArray 0).run Tryz.prog w = .ok (.agg (Lib.byteCells p.dig).toArray) w := by
 obtain ⟨i, hi⟩ := info_of_underlying Tryz.underlying40
 have hc : Tryz.prog.cellsOf 40 = 32 := by kernel_rfl
 have he : List.take 32 (pcV p) = Lib.byteCells p.dig := by
  unfold pcV
  rw [List.take_append_of_le_length (by rw [bytes_len, hp]; exact Nat.le_refl _), List.take_of_length_le (by rw [bytes_len, hp]; exact Nat.le_refl _)]
 simp only [part, isAgg, run_underlying Tryz.underlying40, run_sizeOf w hi, hc, Sem.run_bind, Result.andThen_ok, Sem.run_pure, if_true, Nat.zero_add]
 rw [show (pcV p).toArray.extract 0 32 = (Lib.byteCells p.dig).toArray by simp [he]]
theorem part_size (p : Pc) (hp : p.dig.length = 32) (w : World) : (part 2 (pcV p).toArray 32).run Tryz.prog w = .ok (.int .i64 p.size) w := by
 refine run_part_plain w (by kernel_rfl) ?_
 unfold pcV
 rw [List.getElem?_toArray, List.getElem?_append_right (by rw [bytes_len, hp]; exact Nat.le_refl _), bytes_len, hp]; rfl
theorem eqIn_piece (p q : Pc) (hp : p.dig.length = 32) (hq : q.dig.length = 32) (w : World) : ∃ b, (Op.equalIn 10000 42 (.agg (pcV p).toArray) (.agg (pcV q).toArray)).run Tryz.prog w = .ok b w ∧ (b = true ↔ p = q) ∧ b = (decide (p.dig = q.dig) && (p.size == q.size)) := by
 obtain ⟨a, c, hf, n1, n2, t1, o1, t2, o2⟩ := fieldsPiece
 refine ⟨_, ?_, ?_, rfl⟩
 · rw [run_equalIn_struct w 9999 42 _ _ (by kernel_rfl) stoodPiece, hf]
   simp only [Op.eqFields, n1, n2, ne_eq, not_false_eq_true, if_true, Sem.run_bind, t1, o1, t2, o2, part_dig p hp, part_dig q hq, Result.andThen_ok, eqIn_dig 9997 p.dig q.dig hp hq]
   by_cases h1 : p.dig = q.dig
   · by_cases h2 : p.size = q.size
     · simp [h1, h2, part_size p hp, part_size q hq, fun a b => run_equalIn_int w 9998 2 .i64 .i64 a b Tryz.underlying2]
     · simp [h1, h2, part_size p hp, part_size q hq, fun a b => run_equalIn_int w 9998 2 .i64 .i64 a b Tryz.underlying2]
   · simp [h1]
 · obtain ⟨d1, s1⟩ := p
   obtain ⟨d2, s2⟩ := q
   simp
theorem eql_piece (p q : Pc) (hp : p.dig.length = 32) (hq : q.dig.length = 32) : ∃ b, (∀ w, (binOp .eql 42 (.agg (pcV p).toArray) (.agg (pcV q).toArray)).run Tryz.prog w = .ok (.bool b) w) ∧ (∀ x y w, (eqGuard .eql 42 x y (.agg (pcV p).toArray) (.agg (pcV q).toArray)).run Tryz.prog w = .ok () w) ∧ (b = true ↔ p = q) := by
 obtain ⟨b, _, h2, e⟩ := eqIn_piece p q hp hq default
 refine ⟨b, fun w => ?_, fun _ _ w => run_eqGuard_agg w .eql 42 _ _ _ _ guardPiece, h2⟩
 obtain ⟨b', h1, _, e'⟩ := eqIn_piece p q hp hq w
 rw [run_eql_struct, h1, e', ← e]; rfl
theorem neq_piece (p q : Pc) (hp : p.dig.length = 32) (hq : q.dig.length = 32) : ∃ b, NeqB 42 (.agg (pcV p).toArray) (.agg (pcV q).toArray) b ∧ (b = true ↔ p ≠ q) := by
 obtain ⟨b, _, h2, e⟩ := eqIn_piece p q hp hq default
 refine ⟨!b, ⟨fun w => ?_, fun _ _ w => run_eqGuard_agg w .neq 42 _ _ _ _ guardPiece⟩, ⟨fun h hpq => (by rw [h2.2 hpq] at h; cases h), fun h => (by cases b; rfl; exact absurd (h2.1 rfl) h)⟩⟩
 obtain ⟨b', h1, _, e'⟩ := eqIn_piece p q hp hq w
 rw [run_neq_struct, h1, e', ← e]; rfl
set_option maxHeartbeats 1000000 in
theorem SamePieces_any (A A' : Option Addr) (n c n' c' B1 B2 : Nat) (l m : List (Pc)) (w : World) (h32 : ∀ x ∈ l, x.dig.length = 32) (h33 : ∀ x ∈ m, x.dig.length = 32) (hr : Reads w B1 33 A n (pcC l)) (hr' : Reads w B2 33 A' n' (pcC m)) (hl : l.length = n) (hm : m.length = n') (hB : B1 ≤ w.heap.size) (hB' : B2 ≤ w.heap.size) (hn : n ≤ 1099511627776) (hn' : n' ≤ 1099511627776) :
   Calls Tryz.prog 52 #[.slice A n c, .slice A' n' c'] w (SameP (l = m) w) := by
 have HL := Lib.hid hl
 have HM := Lib.hid hm
 have HR := Lib.hid (hr.more hB)
 have HR' := Lib.hid (hr'.more hB')
 have H32 : Hid ((∀ x ∈ l, (pcV x).length = 33) ∧ ∀ x ∈ m, (pcV x).length = 33) := Lib.hid ⟨fun x h => pcV_len (h32 x h), fun x h => pcV_len (h33 x h)⟩
 have HX0 := Lib.hid (And.intro h32 h33)
 clear hl hr hm hr'
 by_cases hnn : n = n'
 · subst hnn
   go_enter Tryz.func52, Tryz.ntmps52
   go_wp2
   go_loopw [5] (fun i wr => ∃ k : Nat, k ≤ n ∧ i = .int .i64 k ∧ Hid (l.take k = m.take k) ∧ Hid (Below w.heap.size w wr)) (fun i _ => n - (intOf i).toNat)
   case atStart => exact ⟨0, by omega, rfl, Lib.hid (by simp), Lib.hid (Below.refl _ _)⟩
   case round =>
    obtain ⟨k, hk, rfl, HE, HW⟩ := hrel
    by_cases hlt : k < n
    · obtain ⟨x, hx⟩ : ∃ x, l[k]? = some x := ⟨_, List.getElem?_eq_getElem (by have := HL.out; omega)⟩
      obtain ⟨y, hy⟩ : ∃ y, m[k]? = some y := ⟨_, List.getElem?_eq_getElem (by have := HM.out; omega)⟩
      obtain ⟨ad, rfl, _, hc⟩ := at_flat (f := pcV) H32.out.1 (HR.out.below HW.out) HL.out hx
      obtain ⟨ad', rfl, _, hc'⟩ := at_flat (f := pcV) H32.out.2 (HR'.out.below HW.out) HM.out hy
      have HX : Hid (x = y → l.take (k + 1) = m.take (k + 1)) := Lib.hid (fun h => by
        rw [List.take_add_one, List.take_add_one, HE.out, hx, hy, h])
      have HY : Hid (x ≠ y → l ≠ m) := Lib.hid (fun h e => h (by rw [e, hy] at hx; injection hx with hx; exact hx.symm))
      have hlx := H32.out.1 x (List.mem_of_getElem? hx)
      have hly := H32.out.2 y (List.mem_of_getElem? hy)
      obtain ⟨b, ⟨c1, c2⟩, hb⟩ := neq_piece x y (HX0.out.1 x (List.mem_of_getElem? hx)) (HX0.out.2 y (List.mem_of_getElem? hy))
      have HBB := Lib.hid hb
      clear hb hx hy
      obtain ⟨u, hu⟩ : ∃ u, u = Value.agg (pcV x).toArray := ⟨_, rfl⟩
      obtain ⟨v, hv⟩ : ∃ v, v = Value.agg (pcV y).toArray := ⟨_, rfl⟩
      rw [← hu, ← hv] at c1 c2
      go_upto_region 6 with fail
      refine wp_region_held_drew (S := fun wy => (∀ j z, (pcV x)[j]? = some z → wy.cell? ((ad.add (k * 33)).add j) = some z) ∧ (∀ j z, (pcV y)[j]? = some z → wy.cell? ((ad'.add (k * 33)).add j) = some z)) (by kernel_rfl) ⟨hc, hc'⟩ (fun hHeld => ?_)
      refine tk 0 (h := ?_)
      try simp only [Act.put, List.setIfInBounds_toArray, List.set_cons_zero, List.set_cons_succ]
      refine tk 1 (h := ?_)
      try simp only [Act.put, List.setIfInBounds_toArray, List.set_cons_zero, List.set_cons_succ]
      refine tk 2 (h := ?_)
      try simp only [Act.put, List.setIfInBounds_toArray, List.set_cons_zero, List.set_cons_succ]
      refine wpAnyH_take (i := 3) (by simp only [List.getElem?_toArray, List.getElem?_cons_succ, List.getElem?_cons_zero]; rfl) (by kernel_rfl) (by kernel_rfl) (by kernel_rfl) (by exact fun _ _ _ h => h) (yieldsIf_load_any (by rfl) _ _ rfl _ rfl (pcV x) _ (fun _ h => h.1) Tryz.underlying42 rfl (by rw [hlx]; kernel_rfl)) hHeld ?_
      rw [← hu]
      try simp only [Act.put, List.setIfInBounds_toArray, List.set_cons_zero, List.set_cons_succ]
      refine tk 4 (h := ?_)
      try simp only [Act.put, List.setIfInBounds_toArray, List.set_cons_zero, List.set_cons_succ]
      refine tk 5 (h := ?_)
      try simp only [Act.put, List.setIfInBounds_toArray, List.set_cons_zero, List.set_cons_succ]
      refine tk 6 (h := ?_)
      try simp only [Act.put, List.setIfInBounds_toArray, List.set_cons_zero, List.set_cons_succ]
      refine wpAnyH_take (i := 7) (by simp only [List.getElem?_toArray, List.getElem?_cons_succ, List.getElem?_cons_zero]; rfl) (by kernel_rfl) (by kernel_rfl) (by kernel_rfl) (by exact fun _ _ _ h => h) (yieldsIf_load_any (by rfl) _ _ rfl _ rfl (pcV y) _ (fun _ h => h.2) Tryz.underlying42 rfl (by rw [hly]; kernel_rfl)) hHeld ?_
      rw [← hv]
      try simp only [Act.put, List.setIfInBounds_toArray, List.set_cons_zero, List.set_cons_succ]
      clear hu hv hlx hly
      refine tk 8 (h := ?_)
      try simp only [Act.put, List.setIfInBounds_toArray, List.set_cons_zero, List.set_cons_succ]
      refine wpAnyH_done (by kernel_rfl) ?_ _
      clear hHeld hc hc' c1 c2
      have HW1 : Hid (Below w.heap.size w wr.drew) := Lib.hid HW.out.drew
      cases b
      · have H1 := Lib.hid (HX.out (Classical.byContradiction fun e => by have := HBB.out.2 e; cases this))
        go_wp2
        go_roundw
        case rel => exact ⟨k + 1, by omega, by go_num, H1, HW1⟩
        case measure => simp [intOf]; omega
      · have H1 := Lib.hid (HY.out (HBB.out.1 rfl))
        go_wp2
        go_ret
        exact SameP.of false (by simp [H1.out]) HW1.out
    · go_wp2
      go_ret
      refine SameP.of true ?_ HW.out
      have := HE.out
      rw [List.take_of_length_le (by have := HL.out; omega), List.take_of_length_le (by have := HM.out; omega)] at this
      simp [this]
 · have HF : Hid (l ≠ m) := Lib.hid (by
    rintro rfl
    have := HL.out; have := HM.out; omega)
   go_enter Tryz.func52, Tryz.ntmps52
   go_wp2
   go_ret
   exact SameP.of false (by simp [HF.out]) (Below.refl _ _)
end Js.Cf
end Go.Proofs.YtjohdaobhonioaaGreatDoor
namespace Go.Proofs.YtjohdaobhonioaaGreatDoor
open Go.RowKit
namespace Js.Cf
theorem wpList_load_as {P : Program} {ops : Array Oper} {rest : List Oper} {op : Oper} {a : Act} {w : World} {Q : Exit → Act → World → Prop} (u : Value) (hgd : op.guard = none) (ty : TypeId) (x : Operand) (ho : op.op = .load ty x)
  (g off : Nat) (hx : a.eval x = .pointer (some ⟨g, off, none⟩)) (cs : List Value) (d : TypeDesc) (hr : w.rangeAt g off cs) (hu : P.underlying ty = some d) (hd : d.isRow = true) (hi : (P.info? ty).map (·.size) = some cs.length) (he : Value.agg cs.toArray = u)
  (h : wpList P ops Q rest (a.put op.dst u) w) : wpList P ops Q (op :: rest) a w := by
 subst he
 exact wpList_load_mid hgd ty x ho g off hx cs d hr hu hd hi h
theorem mf_cell0 {pcs : List Value} (h : pcs.length = 33) (a : Value) : (pcs ++ [a]).toArray[33]? = some a := by
 rw [List.getElem?_toArray, ← h, List.getElem?_append_right (Nat.le_refl _), Nat.sub_self]; rfl
theorem mf_range {w : World} {g : Nat} {pcs : List Value} {a : Value} (h : Blk w g 45 (pcs ++ [a]).toArray) : w.rangeAt g 0 pcs := fun jj v hv => by
 rw [Nat.zero_add, h.cell, List.getElem?_toArray]
 have hlt : jj < pcs.length := by
  rcases Nat.lt_or_ge jj pcs.length with h1 | h1
  · exact h1
  · rw [List.getElem?_eq_none h1] at hv; cases hv
 rw [List.getElem?_append_left hlt]; exact hv
set_option maxHeartbeats 2000000 in
theorem SameManifest_any (m n : Mf) (A A' : Option Addr) (c c' : Nat) (w : World) (hm : MfOk m) (hn : MfOk n) (hr : Reads w w.heap.size 33 A m.layers.length (pcC m.layers)) (hr' : Reads w w.heap.size 33 A' n.layers.length (pcC n.layers)) (hl : m.layers.length ≤ 1099511627776) (hl' : n.layers.length ≤ 1099511627776) :
   Calls Tryz.prog 18 #[.agg (pcV m.cfg ++ [Value.slice A m.layers.length c]).toArray, .agg (pcV n.cfg ++ [Value.slice A' n.layers.length c']).toArray] w (SameP (m = n) w) := by
 obtain ⟨b, c1, c2, hb⟩ := eql_piece m.cfg n.cfg hm.1.1 hn.1.1
 have HBB := Lib.hid hb
 have HP1 : Hid (Calls Tryz.prog 52 #[.slice A m.layers.length c, .slice A' n.layers.length c'] ((w.alloc (.cells (pcV m.cfg ++ [Value.slice A m.layers.length c]).toArray 45)).alloc (.cells (pcV n.cfg ++ [Value.slice A' n.layers.length c']).toArray 45)) fun e w' => ∃ b, e = .returned (.bool b) ∧ (b = true ↔ m.layers = n.layers) ∧ Below w.heap.size w w') := Lib.hid (by
   refine (SamePieces_any A A' _ c _ c' w.heap.size w.heap.size m.layers n.layers _ (fun x h => (hm.2 x h).1) (fun x h => (hn.2 x h).1) ((hr.alloc (Nat.le_refl _) _).alloc (by simp) _) ((hr'.alloc (Nat.le_refl _) _).alloc (by simp) _) rfl rfl (by simp; omega) (by simp; omega) hl hl').mono ?_
   rintro x w' ⟨b, rfl, h1, h2⟩
   exact ⟨b, rfl, h1, (((Below.refl _ _).alloc (Nat.le_refl _) _).alloc (by simp) _).trans (h2.mono (by simp; omega))⟩)
 have HE : Hid (m.cfg = n.cfg → m.layers = n.layers → m = n) := Lib.hid (fun h1 h2 => by cases m; cases n; simp_all)
 have hp1 : (pcV m.cfg).length = 33 := pcV_len hm.1.1
 have hp2 : (pcV n.cfg).length = 33 := pcV_len hn.1.1
 obtain ⟨u, hu⟩ : ∃ u, u = Value.agg (pcV m.cfg).toArray := ⟨_, rfl⟩
 obtain ⟨v, hv⟩ : ∃ v, v = Value.agg (pcV n.cfg).toArray := ⟨_, rfl⟩
 rw [← hu, ← hv] at c1 c2
 have HU := Lib.hid hu
 have HV := Lib.hid hv
 obtain ⟨p, hp⟩ : ∃ p, p = pcV m.cfg := ⟨_, rfl⟩
 obtain ⟨q, hq⟩ : ∃ q, q = pcV n.cfg := ⟨_, rfl⟩
 have HPQ : Hid (p.length = 33 ∧ q.length = 33 ∧ Value.agg p.toArray = u ∧ Value.agg q.toArray = v) := Lib.hid ⟨by rw [hp]; exact hp1, by rw [hq]; exact hp2, by rw [hp, hu], by rw [hq, hv]⟩
 rw [← hp, ← hq] at HP1 ⊢
 obtain ⟨n1, hn1⟩ : ∃ n1, n1 = m.layers.length := ⟨_, rfl⟩
 obtain ⟨n2, hn2⟩ : ∃ n2, n2 = n.layers.length := ⟨_, rfl⟩
 rw [← hn1, ← hn2] at HP1 ⊢
 clear hp hq hu hv hp1 hp2 hn1 hn2 hr hr' hl hl' hm hn hb HU HV
 obtain ⟨wz, hwz⟩ : ∃ wz, wz = (w.alloc (.cells (p ++ [Value.slice A n1 c]).toArray 45)).alloc (.cells (q ++ [Value.slice A' n2 c']).toArray 45) := ⟨_, rfl⟩
 have HBP : Hid (Blk wz w.heap.size 45 (p ++ [Value.slice A n1 c]).toArray) := Lib.hid (by rw [hwz]; exact (Blk.new _ _ _).alloc _)
 have HBQ : Hid (Blk wz (w.heap.size + 1) 45 (q ++ [Value.slice A' n2 c']).toArray) := Lib.hid (by
   have := Blk.new (w.alloc (.cells (p ++ [Value.slice A n1 c]).toArray 45)) 45 (q ++ [Value.slice A' n2 c']).toArray
   rw [hwz]; simpa using this)
 have HWZ : Hid (Below w.heap.size w wz) := Lib.hid (by rw [hwz]; exact ((Below.refl _ _).alloc (Nat.le_refl _) _).alloc (by simp) _)
 rw [← hwz] at HP1
 obtain ⟨b0, hb0⟩ : ∃ b0, b0 = w.heap.size := ⟨_, rfl⟩
 have HB0 := Lib.hid hb0
 rw [← hb0] at HP1 HBP HBQ HWZ
 go_enter Tryz.func18, Tryz.ntmps18
 go_upto_region 1 with fail
 rw [← hwz]
 try rw [← hb0]
 clear hwz hb0
 have hg1 : wz.rangeAt b0 0 p := mf_range HBP.out
 have hg2 : wz.rangeAt (b0 + 1) 0 q := mf_range HBQ.out
 have hi1 : (Tryz.prog.info? 42).map (·.size) = some p.length := by rw [HPQ.out.1]; kernel_rfl
 have hi2 : (Tryz.prog.info? 42).map (·.size) = some q.length := by rw [HPQ.out.2.1]; kernel_rfl
 have k1 : wz.cell? ⟨b0, 33, none⟩ = some (.slice A n1 c) := by rw [HBP.out.cell]; exact mf_cell0 HPQ.out.1 _
 have k2 : wz.cell? ⟨b0 + 1, 33, none⟩ = some (.slice A' n2 c') := by rw [HBQ.out.cell]; exact mf_cell0 HPQ.out.2.1 _
 cases b
 · go_wp2_with (first | refine wpList_load_as u rfl 42 _ rfl b0 0 rfl p _ hg1 Tryz.underlying42 rfl hi1 HPQ.out.2.2.1 ?_ | refine wpList_load_as v rfl 42 _ rfl (b0 + 1) 0 rfl q _ hg2 Tryz.underlying42 rfl hi2 HPQ.out.2.2.2 ?_)
   go_ret
   refine SameP.of false ?_ (by rw [← HB0.out]; exact HWZ.out)
   have := HBB.out
   exact ⟨fun h => (by cases h), fun h => this.2 (by rw [h])⟩
 · have HEQ := Lib.hid (HBB.out.1 rfl)
   clear HBB
   go_wp2_with (first | refine wpList_load_as u rfl 42 _ rfl b0 0 rfl p _ hg1 Tryz.underlying42 rfl hi1 HPQ.out.2.2.1 ?_ | refine wpList_load_as v rfl 42 _ rfl (b0 + 1) 0 rfl q _ hg2 Tryz.underlying42 rfl hi2 HPQ.out.2.2.2 ?_)
   refine HP1.out.mono ?_
   rintro x w1 ⟨b2, rfl, hb2, hw1⟩
   have HB2 := Lib.hid hb2
   have HW1 := Lib.hid hw1
   clear hb2 hw1 c1 c2 hg1 hg2 hi1 hi2 k1 k2
   go_wp2
   go_ret
   exact SameP.of b2 ⟨fun h => HE.out HEQ.out (HB2.out.1 h), fun h => HB2.out.2 (by rw [h])⟩ (by rw [← HB0.out]; exact HW1.out)
theorem str_neq (s t : B) (h : s ≠ t) : (s == t) = false := by simpa using h
theorem reads_up {w wx : World} {k n : Nat} {A : Option Addr} {xs : List Value} (h : Reads w w.heap.size k A n xs) (hb : Below w.heap.size w wx) : Reads wx wx.heap.size k A n xs := (h.below hb).more hb.size
end Js.Cf
end Go.Proofs.YtjohdaobhonioaaGreatDoor
