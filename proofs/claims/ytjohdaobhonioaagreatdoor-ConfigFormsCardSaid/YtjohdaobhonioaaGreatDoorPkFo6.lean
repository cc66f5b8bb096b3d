/-
  Parts of the proof: LayV, LayI, JsS, Law, RowH, RowC.
-/
import Derived.Test.YtjohdaobhonioaaGreatDoorProg
import Derived.Shelf.Unicode.ValidAny
import Derived.Shelf.SlIter.Nil
import Derived.Shelf.SortM.Plain
import Derived.Shelf.SortM.SortNone
import Derived.Test.YtjohdaobhonioaaGreatDoorPkFo5
import Derived.Test.YtjohdaobhonioaaGreatDoorPkFo3
import Derived.Test.YtjohdaobhonioaaGreatDoorPkFo2
import Derived.WalkKit
import Derived.LaidEql
import Derived.Lib.IfaceEq
import Derived.Stop.Asserts
import Derived.RowKitTokens
import Derived.Laws.Tables
import Derived.BigQuiet
import Derived.Deep.QuietTactic
import Derived.Deep.RegionHeld3
import Derived.OwnWalk
import Derived.Test.YtjohdaobhonioaaGreatDoorRows
import Derived.Lib.SmallJoins
import Derived.ProofKit
import Derived.ChangeKeysEq
import Derived.OpenShut
import Derived.Deep.DeepHandedRow
import Derived.Test.YtjohdaobhonioaaGreatDoorPkFo1
import Derived.Test.YtjohdaobhonioaaGreatDoorCards
import Derived.Test.YtjohdaobhonioaaGreatDoorTie
import Derived.LaidSub
import Derived.SliceStrings
import Derived.ChangeMaps5
import Derived.SevenTiedAt
import Derived.Lib.LaidU8T
import Derived.Lib.LaidIn
import Derived.Deep.DeepWitnessRowRef
namespace Go.Proofs.YtjohdaobhonioaaGreatDoor
open Go.Shelf
def lays196_ren : Go.Shelf.Ren := ⟨fun | 196 => 207 | 259 => 245 | n => n, fun | 9 => 9 | 4 => 4 | 3 => 3 | 5 => 5 | 12 => 12 | 119 => 367 | 0 => 0 | 46 => 200 | 139 => 370 | 138 => 369 | 53 => 375 | n => n, fun | 3 => 3 | 4 => 4 | n => n⟩
theorem lays196 : Go.Proofs.Lays.n196 Tryz.prog lays196_ren := {
 mixed := by kernel_rfl
 f196 := Tryz.func207.trans (congrArg some (by kernel_rfl))
 f259 := Tryz.func245.trans (congrArg some (by kernel_rfl))
 t0 := Tryz.underlying0
 a0 := Tryz.isAgg0
 z0 := Tryz.sizeOf0
 v0 := Tryz.zeroValue0
 t3 := Tryz.underlying3
 a3 := Tryz.isAgg3
 z3 := Tryz.sizeOf3
 v3 := Tryz.zeroValue3
 t4 := Tryz.underlying4
 a4 := Tryz.isAgg4
 z4 := Tryz.sizeOf4
 v4 := Tryz.zeroValue4
 t5 := Tryz.underlying5
 a5 := Tryz.isAgg5
 z5 := Tryz.sizeOf5
 v5 := Tryz.zeroValue5
 t9 := Tryz.underlying9
 a9 := Tryz.isAgg9
 z9 := Tryz.sizeOf9
 v9 := Tryz.zeroValue9
 t12 := Tryz.underlying12
 a12 := Tryz.isAgg12
 z12 := Tryz.sizeOf12
 v12 := Tryz.zeroValue12
 t46 := Tryz.underlying200
 a46 := Tryz.isAgg200
 z46 := Tryz.sizeOf200
 v46 := Tryz.zeroValue200
 t53 := Tryz.underlying375
 a53 := Tryz.isAgg375
 z53 := Tryz.sizeOf375
 v53 := Tryz.zeroValue375
 t119 := Tryz.underlying367
 a119 := Tryz.isAgg367
 z119 := Tryz.sizeOf367
 t138 := Tryz.underlying369
 a138 := Tryz.isAgg369
 z138 := Tryz.sizeOf369
 v138 := Tryz.zeroValue369
 t139 := Tryz.underlying370
 a139 := Tryz.isAgg370
 z139 := Tryz.sizeOf370
 v139 := Tryz.zeroValue370
 g3 := by kernel_rfl
 g4 := by kernel_rfl }
end Go.Proofs.YtjohdaobhonioaaGreatDoor
namespace Go.Proofs.YtjohdaobhonioaaGreatDoor
open Go.Shelf
def keys96_ren : Go.Shelf.Ren := ⟨fun | 7 => 211 | 10 => 248 | n => n, fun | 23 => 331 | 26 => 9 | 3 => 3 | 28 => 320 | 0 => 0 | 27 => 319 | 33 => 91 | 4 => 4 | n => n, fun | n => n⟩
theorem keys96 : Go.Proofs.SlLaysZ.n7 Tryz.prog keys96_ren := {
 mixed := by kernel_rfl
 f7 := ⟨Tryz.f211.name, by decide, Tryz.func211.trans (congrArg some (by kernel_rfl))⟩
 f10 := ⟨Tryz.f248.name, by decide, Tryz.func248.trans (congrArg some (by kernel_rfl))⟩
 t0 := Tryz.underlying0
 a0 := Tryz.isAgg0
 z0 := Tryz.sizeOf0
 v0 := Tryz.zeroValue0
 t4 := Tryz.underlying4
 a4 := Tryz.isAgg4
 z4 := Tryz.sizeOf4
 v4 := Tryz.zeroValue4
 t23 := Tryz.underlying331
 a23 := Tryz.isAgg331
 z23 := Tryz.sizeOf331
 v23 := Tryz.zeroValue331
 t26 := Tryz.underlying9
 a26 := Tryz.isAgg9
 z26 := Tryz.sizeOf9
 v26 := Tryz.zeroValue9
 t27 := Tryz.underlying319
 a27 := Tryz.isAgg319
 z27 := Tryz.sizeOf319
 v27 := Tryz.zeroValue319
 t28 := Tryz.underlying320
 a28 := Tryz.isAgg320
 z28 := Tryz.sizeOf320
 v28 := Tryz.zeroValue320
 t33 := Tryz.underlying91
 a33 := Tryz.isAgg91
 z33 := Tryz.sizeOf91
 v33 := Tryz.zeroValue91 }
def sorted95_ren : Go.Shelf.Ren := ⟨fun | 6 => 210 | 8 => 246 | 9 => 247 | 11 => 267 | 13 => 269 | 12 => 268 | 23 => 290 | 24 => 276 | 14 => 281 | 15 => 282 | 16 => 283 | 17 => 284 | 18 => 285 | 19 => 286 | 20 => 287 | 21 => 288 | 22 => 289 | 25 => 293 | 26 => 294 | 27 => 295 | 28 => 296 | 29 => 297 | 30 => 298 | 31 => 299 | n => n, fun | 26 => 9 | 28 => 320 | 24 => 23 | 0 => 0 | 3 => 3 | 37 => 200 | 48 => 314 | 50 => 375 | 4 => 4 | 40 => 406 | 39 => 405 | 45 => 410 | 5 => 5 | 9 => 9 | 51 => 416 | 55 => 420 | 57 => 423 | 58 => 424 | 33 => 91 | n => n, fun | n => n⟩
theorem sorted95 : Go.Proofs.SlLaysZ.n6 Tryz.prog sorted95_ren := {
 mixed := by kernel_rfl
 f6 := ⟨Tryz.f210.name, by decide, Tryz.func210.trans (congrArg some (by kernel_rfl))⟩
 f8 := ⟨Tryz.f246.name, by decide, Tryz.func246.trans (congrArg some (by kernel_rfl))⟩
 f11 := ⟨Tryz.f267.name, by decide, Tryz.func267.trans (congrArg some (by kernel_rfl))⟩
 t0 := Tryz.underlying0
 a0 := Tryz.isAgg0
 z0 := Tryz.sizeOf0
 v0 := Tryz.zeroValue0
 t24 := Tryz.underlying23
 a24 := Tryz.isAgg23
 z24 := Tryz.sizeOf23
 v24 := Tryz.zeroValue23
 t26 := Tryz.underlying9
 a26 := Tryz.isAgg9
 z26 := Tryz.sizeOf9
 v26 := Tryz.zeroValue9
 t28 := Tryz.underlying320
 a28 := Tryz.isAgg320
 z28 := Tryz.sizeOf320
 v28 := Tryz.zeroValue320
 i26 := by kernel_rfl }
def sort139_ren : Go.Shelf.Ren := ⟨fun | 6 => 247 | 8 => 269 | 9 => 268 | 19 => 290 | 20 => 276 | 21 => 281 | 22 => 282 | 23 => 283 | 24 => 284 | 25 => 285 | 26 => 286 | 27 => 287 | 28 => 288 | 29 => 289 | 36 => 293 | 31 => 294 | 32 => 295 | 37 => 296 | 38 => 297 | 39 => 298 | 41 => 299 | n => n, fun | 27 => 23 | 29 => 9 | 3 => 3 | 32 => 200 | 26 => 23 | 0 => 0 | 44 => 314 | 46 => 375 | 4 => 4 | 36 => 406 | 35 => 405 | 41 => 410 | 5 => 5 | 9 => 9 | 53 => 416 | 57 => 420 | 63 => 423 | 64 => 424 | n => n, fun | n => n⟩
theorem sort139 : Go.Proofs.SlLaysM.n6 Tryz.prog sort139_ren := {
 mixed := by kernel_rfl
 f6 := ⟨Tryz.f247.name, by decide, Tryz.func247.trans (congrArg some (by kernel_rfl))⟩
 f8 := Tryz.func269.trans (congrArg some (by kernel_rfl))
 f9 := ⟨Tryz.f268.name, by decide, Tryz.func268.trans (congrArg some (by kernel_rfl))⟩
 f19 := Tryz.func290.trans (congrArg some (by kernel_rfl))
 f20 := Tryz.func276.trans (congrArg some (by kernel_rfl))
 f21 := ⟨Tryz.f281.name, by decide, Tryz.func281.trans (congrArg some (by kernel_rfl))⟩
 f22 := ⟨Tryz.f282.name, by decide, Tryz.func282.trans (congrArg some (by kernel_rfl))⟩
 f23 := ⟨Tryz.f283.name, by decide, Tryz.func283.trans (congrArg some (by kernel_rfl))⟩
 f24 := ⟨Tryz.f284.name, by decide, Tryz.func284.trans (congrArg some (by kernel_rfl))⟩
 f25 := ⟨Tryz.f285.name, by decide, Tryz.func285.trans (congrArg some (by kernel_rfl))⟩
 f26 := ⟨Tryz.f286.name, by decide, Tryz.func286.trans (congrArg some (by kernel_rfl))⟩
 f27 := ⟨Tryz.f287.name, by decide, Tryz.func287.trans (congrArg some (by kernel_rfl))⟩
 f28 := ⟨Tryz.f288.name, by decide, Tryz.func288.trans (congrArg some (by kernel_rfl))⟩
 f29 := ⟨Tryz.f289.name, by decide, Tryz.func289.trans (congrArg some (by kernel_rfl))⟩
 f31 := Tryz.func294.trans (congrArg some (by kernel_rfl))
 f32 := Tryz.func295.trans (congrArg some (by kernel_rfl))
 f36 := ⟨Tryz.f293.name, by decide, Tryz.func293.trans (congrArg some (by kernel_rfl))⟩
 f37 := ⟨Tryz.f296.name, by decide, Tryz.func296.trans (congrArg some (by kernel_rfl))⟩
 f38 := ⟨Tryz.f297.name, by decide, Tryz.func297.trans (congrArg some (by kernel_rfl))⟩
 f39 := ⟨Tryz.f298.name, by decide, Tryz.func298.trans (congrArg some (by kernel_rfl))⟩
 f41 := ⟨Tryz.f299.name, by decide, Tryz.func299.trans (congrArg some (by kernel_rfl))⟩
 t0 := Tryz.underlying0
 a0 := Tryz.isAgg0
 z0 := Tryz.sizeOf0
 v0 := Tryz.zeroValue0
 t3 := Tryz.underlying3
 a3 := Tryz.isAgg3
 z3 := Tryz.sizeOf3
 v3 := Tryz.zeroValue3
 t4 := Tryz.underlying4
 a4 := Tryz.isAgg4
 z4 := Tryz.sizeOf4
 v4 := Tryz.zeroValue4
 t5 := Tryz.underlying5
 a5 := Tryz.isAgg5
 z5 := Tryz.sizeOf5
 v5 := Tryz.zeroValue5
 t9 := Tryz.underlying9
 a9 := Tryz.isAgg9
 z9 := Tryz.sizeOf9
 v9 := Tryz.zeroValue9
 t26 := Tryz.underlying23
 a26 := Tryz.isAgg23
 z26 := Tryz.sizeOf23
 v26 := Tryz.zeroValue23
 t27 := Tryz.underlying23
 a27 := Tryz.isAgg23
 z27 := Tryz.sizeOf23
 v27 := Tryz.zeroValue23
 t29 := Tryz.underlying9
 a29 := Tryz.isAgg9
 z29 := Tryz.sizeOf9
 v29 := Tryz.zeroValue9
 t32 := Tryz.underlying200
 a32 := Tryz.isAgg200
 z32 := Tryz.sizeOf200
 v32 := Tryz.zeroValue200
 t35 := Tryz.underlying405
 a35 := Tryz.isAgg405
 z35 := Tryz.sizeOf405
 v35 := Tryz.zeroValue405
 t36 := Tryz.underlying406
 a36 := Tryz.isAgg406
 z36 := Tryz.sizeOf406
 v36 := Tryz.zeroValue406
 t41 := Tryz.underlying410
 a41 := Tryz.isAgg410
 z41 := Tryz.sizeOf410
 v41 := Tryz.zeroValue410
 t44 := Tryz.underlying314
 a44 := Tryz.isAgg314
 z44 := Tryz.sizeOf314
 v44 := Tryz.zeroValue314
 t46 := Tryz.underlying375
 a46 := Tryz.isAgg375
 z46 := Tryz.sizeOf375
 v46 := Tryz.zeroValue375
 t53 := Tryz.underlying416
 a53 := Tryz.isAgg416
 z53 := Tryz.sizeOf416
 v53 := Tryz.zeroValue416
 t57 := Tryz.underlying420
 a57 := Tryz.isAgg420
 z57 := Tryz.sizeOf420
 v57 := Tryz.zeroValue420
 t63 := Tryz.underlying423
 a63 := Tryz.isAgg423
 z63 := Tryz.sizeOf423
 v63 := Tryz.zeroValue423
 t64 := Tryz.underlying424
 a64 := Tryz.isAgg424
 z64 := Tryz.sizeOf424
 v64 := Tryz.zeroValue424 }
end Go.Proofs.YtjohdaobhonioaaGreatDoor
namespace Go.Proofs.YtjohdaobhonioaaGreatDoor
open Go.RowKit Go.Maps Go.Sort Go.Shelf
namespace Js
def pow10Name : String := (Rows.configBackRow.laid.map (·.1)).getD 2 default
def Tab10 (w : World) : Prop := Lib.TabIs Tryz.prog w pow10Name .u64 Lib.pow10Tab
theorem tab10_named : Tryz.prog.globalNamed pow10Name = some 8 := by kernel_rfl
def ErrAt (w : World) (g : Nat) : Prop := ∃ ev, w.cell? ⟨g, 0, none⟩ = some ev /\ (ev = .nilIface ∨ ∃ te pe, ev = .iface te pe)
structure St (w : World) : Prop where
 size : 11 ≤ w.heap.size
 pow : Tab10 w
 utf : Lib.Utf8Tabs 3 4 w
 syn : ErrAt w 6
 rng : ErrAt w 7
theorem St.kept {w w' : World} (h : St w) (hs : w.heap.size ≤ w'.heap.size) (hk : ∀ b, b < 11 -> w'.heap[b]? = w.heap[b]?) : St w' := by
 have hc : ∀ b o, b < 11 -> w'.cell? ⟨b, o, none⟩ = w.cell? ⟨b, o, none⟩ := fun b o hb => World.cell?_of_block (hk b hb)
 refine ⟨Nat.le_trans h.size hs, ?_, ⟨fun c hcc => (hc _ _ (by decide)).trans (h.utf.1 c hcc), fun i hi => ⟨(hc _ _ (by decide)).trans (h.utf.2 i hi).1, (hc _ _ (by decide)).trans (h.utf.2 i hi).2⟩⟩, ?_, ?_⟩
 . have h1 := h.pow
   unfold Tab10 Lib.TabIs World.var? at h1 ⊢
   rw [tab10_named] at h1 ⊢
   simp only [Option.bind_some] at h1 ⊢
   rw [hk _ (by decide)]
   exact h1
 . obtain ⟨ev, h1, h2⟩ := h.syn
   exact ⟨ev, (hc _ _ (by decide)).trans h1, h2⟩
 . obtain ⟨ev, h1, h2⟩ := h.rng
   exact ⟨ev, (hc _ _ (by decide)).trans h1, h2⟩
theorem St.below {w w' : World} (h : St w) (hb : Below w.heap.size w w') : St w' := h.kept hb.size fun b hb' => hb.block b (by have := h.size; omega)
theorem St.kp {w w' : World} {B : Nat} {X : Nat -> Prop} (h : St w) (hk : Kp B X w w') (hB : 11 ≤ B) (hX : ∀ b, b < 11 -> ¬ X b) : St w' := h.kept hk.size fun b hb => hk.block b (by omega) (hX b hb)
theorem St.rdr {w w' : World} {rb : Nat} (h : St w) (hk : Kp w.heap.size (· = rb) w w') (hr : 11 ≤ rb) : St w' := h.kp hk h.size fun b hb e => by omega
theorem St.alloc {w : World} (h : St w) (o : Obj) : St (w.alloc o) := h.below ((Below.refl _ _).alloc (Nat.le_refl _) o)
theorem St.drewN {w : World} (h : St w) (n : Nat) : St (w.drewN n) := h.kept (Nat.le_refl _) fun _ _ => rfl
theorem St.drew {w : World} (h : St w) : St w.drew := h.kept (Nat.le_refl _) fun _ _ => rfl
theorem St.setCell {w : World} (h : St w) {p : Addr} (hp : 11 ≤ p.block) (u : Value) : St (w.setCell p u) := h.kept (by simp) fun b hb => Below.heap_setCell w p u b (by omega)
theorem take_pfx (s q : List UInt8) : (s.take q.length == q) = q.isPrefixOf s := by
 rw [Bool.eq_iff_iff, beq_iff_eq, List.isPrefixOf_iff_prefix]
 constructor
 . intro h; refine ⟨s.drop q.length, ?_⟩; conv => lhs; lhs; rw [<- h]
   exact List.take_append_drop _ _
 . rintro ⟨t, rfl⟩; exact List.take_left
theorem prefix_any (s q : List UInt8) (w : World) :
   Calls Tryz.prog 54 #[.string ⟨s.toArray⟩, .string ⟨q.toArray⟩] w fun x w' => x = .returned (.bool (q.isPrefixOf s)) /\ w = w' := by
 rw [<- take_pfx]
 rcases Nat.lt_or_ge s.length q.length with hq | hq
 rotate_left 1
 . have hsl := fun wx => run_slice_to_list Tryz.underlying9 s .i64 (q.length : Int) q.length rfl hq wx
   generalize s.take q.length = u at hsl
   go_enter Tryz.func54, Tryz.ntmps54
   go_wp2
   go_ret
   exact ⟨rfl, rfl⟩
 . have h0 : (s.take q.length == q) = false := by rw [beq_eq_false_iff_ne]; intro h; have := congrArg List.length h; rw [List.length_take] at this; omega
   rw [h0]
   go_enter Tryz.func54, Tryz.ntmps54
   go_wp2
   go_ret
   exact ⟨rfl, rfl⟩
theorem valid_any (s : List UInt8) (hs : s.length ≤ 4398046511104) (w : World) (hT : St w) :
  Calls Tryz.prog 207 #[.string ⟨s.toArray⟩] w fun x w' => x = .returned (.bool (decide (wrong s = none))) /\ Below w.heap.size w w' := by
 have := Any.utf8_ValidString lays196 ⟨s.toArray⟩ w (by simp [ByteArray.size]; omega) hT.utf
 rw [valid_is] at this
 exact this
theorem below_grow (w : World) (k : Nat) (os : Array Obj) : Below w.heap.size w (grow (w.drewN k) os) :=
 ⟨rfl, rfl, rfl, by simp [grow, World.drewN], fun i hi => by simp only [grow, World.drewN]; rw [Array.getElem?_append_left hi]⟩
theorem format_any (n : Int) (h0 : -9223372036854775808 ≤ n) (h1 : n ≤ 9223372036854775807) (w : World) (hT : St w) :
  Calls Tryz.prog 153 #[.int .i64 n, .int .i64 10] w fun x w' => x = .returned (.string ⟨(decI n).toArray⟩) /\ Below w.heap.size w w' := by
 refine (Any.strconv_FormatInt_10 laysM173 n h0 h1 w hT.pow).mono ?_
 rintro e w' ⟨rfl, k, os, rfl⟩
 exact ⟨rfl, below_grow w k os⟩
theorem parse_ok_any (m : List UInt8) (hm : m.length ≤ 4398046511104) (v : Int) (h : Lib.parseIntB 64 m = .ok v) (w : World) :
   Calls Tryz.prog 152 #[.string ⟨m.toArray⟩, .int .i64 10, .int .i64 64] w fun x w' => x = .returned (.tuple #[.int .i64 v, .nilIface]) /\ Below w.heap.size w w' := by
 refine (Any.strconv_ParseInt_10_at64_ok laysC174 ⟨m.toArray⟩ (by simp [ByteArray.size]; omega) v h w).mono ?_
 rintro e w' ⟨rfl, rfl | ⟨t, rfl⟩⟩
 . exact ⟨rfl, Below.refl _ _⟩
 . exact ⟨rfl, Go.Joins.below_bytesWorld _ _ _ _ (Nat.le_refl _)⟩
theorem parse_bad_any (m : List UInt8) (hm : m.length ≤ 4398046511104) (h : ∀ v, Lib.parseIntB 64 m ≠ .ok v) (w : World) (hT : St w) :
  Calls Tryz.prog 152 #[.string ⟨m.toArray⟩, .int .i64 10, .int .i64 64] w fun x w' => ∃ (z : Int) (T : TypeId) (N : Nat), x = .returned (.tuple #[.int .i64 z, .iface T (.pointer (some ⟨N, 0, none⟩))]) /\ Below w.heap.size w w' := by
 cases hp : Lib.parseIntB 64 m with
 | ok v => exact absurd hp (h v)
 | «syntax» =>
  obtain ⟨ev, hv, hev⟩ := hT.syn
  refine (Any.strconv_ParseInt_10_at64_syntax laysC174 ⟨m.toArray⟩ (by simp [ByteArray.size]; omega) hp ev w hv hev).mono ?_
  rintro e w' ⟨N, rfl, _, _, hb⟩
  exact ⟨_, _, N, rfl, hb⟩
 | range =>
  obtain ⟨ev, hv, hev⟩ := hT.rng
  refine (Any.strconv_ParseInt_10_at64_range laysC174 ⟨m.toArray⟩ (by simp [ByteArray.size]; omega) hp ev w hv hev).mono ?_
  rintro e w' ⟨N, rfl, _, _, hb⟩
  exact ⟨_, _, N, rfl, hb⟩
end Js
end Go.Proofs.YtjohdaobhonioaaGreatDoor
namespace Go.Proofs.YtjohdaobhonioaaGreatDoor
open Go.ChangeShapes Go.WideShapes Go.ChangeAt Go.RowKit
theorem own : ownKnob Tryz.prog.godebug = none := by kernel_rfl
theorem laidOut : laidOutB Tryz.prog = true := by kernel_rfl
section
variable {H : Type} {enc : TypeId × Value -> H} {P : Program}
theorem trodAll_below (hl : laidOutB P = true) {W W' : World} (hb : Below W.heap.size W W') : ∀ (ts : List TypeId) (vs : List Value) (ds : List (DataW H)) (ps : List MemPlace),
  (∀ t ∈ ts, P.readableRec t = true /\ t < P.types.size) -> DataW.TrodAll enc P W 0 (fun _ => true) true ts vs ds ps -> (∀ x ∈ ps, x.block < W.heap.size) ->
  DataW.TrodAll enc P W' 0 (fun b => decide (b < W.heap.size)) true ts vs ds ps
 | [], vs, ds, ps, _, h, _ => by
  obtain ⟨rfl, rfl, rfl⟩ := trodAll_nil h
  rfl
 | t :: ts, vs, ds, ps, hr, h, hlt => by
  obtain ⟨v, vs', d, ds', p, q, rfl, rfl, rfl, h0, h1⟩ := trodAll_cons h
  exact ⟨p, q, Below.trod hl (hr t (by simp)).1 (hr t (by simp)).2 h0 hb (fun x hx => hlt x (by simp [hx])),
   trodAll_below hl hb ts vs' ds' q (fun t ht => hr t (by simp [ht])) h1 (fun x hx => hlt x (by simp [hx])), rfl⟩
theorem law_post {f : Func} {s : ChangeSpec} {W W' : World} {args : Array Value} {ds gs : List (DataW H)} {before : List MemPlace} {tb : TypeId}
   (hW : DataW.Whole enc P f.params.toList s.vars false W args.toList ds gs before) (hv : s.vars = []) (hr : f.resultTypes = #[tb]) (ht : P.underlying tb = some .bool)
   (hl : laidOutB P = true) (hrd : ∀ t ∈ f.params.toList, P.readableRec t = true /\ t < P.types.size)
   (hfn : gs = [] -> (s.fn H (ds ++ gs)) = { results := [.lit (.bool true)], args := ds }) (hb : Below W.heap.size W W') :
   s.post enc P f false true false false W args (.bool true) W' := by
 have hW' := hW
 obtain ⟨p, q, hA, hV, rfl, hfz, hnd⟩ := hW
 have hlt := hW'.lt
 rw [hv] at hV
 obtain ⟨rfl, rfl⟩ : gs = [] /\ q = [] := by
   cases gs with
   | nil => exact ⟨rfl, hV⟩
   | cons _ _ => exact hV.elim
 have hf := hfn rfl
 refine ⟨ds, [], p ++ [], [], p, [], hW', ?_, ?_, ?_, hb.frame _, fun h => by cases h⟩
 . rw [hf, hr]
   exact trodAll_mk1 (shut_bool ht _)
 . rw [hf]
   exact trodAll_below hl hb _ _ _ _ hrd hA (fun x hx => hlt x (by simpa using hx))
 . rw [hf, hv]
   rfl
end
end Go.Proofs.YtjohdaobhonioaaGreatDoor
namespace Go.Proofs.YtjohdaobhonioaaGreatDoor
open Go.ChangeShapes Go.WideShapes Go.ChangeAt Go.RowKit
theorem no_standIn {b : Bool} {name : String} {f : FuncId} {fn : Func} (h1 : Tryz.prog.funcNamed name = some f) (h2 : Tryz.prog.funcs[f]? = some fn) (hl : b = Tryz.prog.looks []) (hw : fn.params.all (fun t => !Tryz.prog.wantsStandIn t) = true)
  (f' : FuncId) (fn' : Func) (hf : Tryz.pinned.checked.prog.funcNamed name = some f') (hfn : Tryz.pinned.checked.prog.funcs[f']? = some fn') :
  b = Tryz.pinned.checked.prog.looks [] /\ ∀ (j : Nat) t, fn'.params[j]? = some t -> Tryz.pinned.checked.prog.wantsStandIn t = false := by
 obtain rfl : f' = f := Option.some.inj (h1.symm.trans hf) |>.symm
 obtain rfl : fn' = fn := (Option.some.inj (h2.symm.trans hfn)).symm
 refine ⟨hl, fun j t ht => ?_⟩
 have := Array.all_eq_true_iff_forall_mem.1 hw t (Array.mem_of_getElem? ht)
 exact (by simpa using this : Tryz.prog.wantsStandIn t = false)
theorem open_u8 {H : Type} {enc : TypeId × Value -> H} {P : Program} {w : World} {base : Nat} {sp : Nat -> Bool} {held : Bool} {t : TypeId} {v : Value} {d : DataW H} {ps : List MemPlace} {r : Reach} {b0 : Nat}
  (ht : P.underlying t = some (.int .u8)) (hv : Value.okWide P w r b0 t v) (h : DataW.Trod enc P w base sp held t v d ps) : ∃ c : UInt8, v = .int .u8 c.toNat := by
 obtain ⟨n, rfl, _, _, hw⟩ := Go.ChangeShapes.open_int ht hv h
 have hb : 0 ≤ n /\ n < 256 := by
  have h0 : IntKind.u8.min = 0 := rfl
  have h1 : IntKind.u8.max = 255 := rfl
  simp [Lit.wf] at hw
  omega
 refine ⟨UInt8.ofNat n.toNat, ?_⟩
 rw [UInt8.toNat_ofNat']
 congr 1
 omega
end Go.Proofs.YtjohdaobhonioaaGreatDoor
namespace Go.Proofs.YtjohdaobhonioaaGreatDoor
open Go.ChangeShapes Go.WideShapes Go.ChangeAt Go.RowKit Js Go.Lib
def lCells (N : Nat) : DataW Unit -> Array Value
 | .agg ps => (ps.flatMap fun d => match d with
  | .lit (.int k z) => [Value.int k z]
  | .agg qs => qs.map fun e => match e with | .lit (.int k z) => Value.int k z | _ => Value.nilIface
  | _ => []).toArray
 | .iface "*errors.errorString" _ => #[.iface 413 (.pointer (some ⟨N, 0, none⟩))]
 | _ => #[.nilIface]
noncomputable def laidWorldC (l : List (String × DataW Unit)) (os : Os) : World :=
 let N := (World.settled Tryz.prog os).heap.size
 let w0 := World.holding Tryz.prog os ⟨#[.cells #[.string ⟨#[118, 97, 108, 117, 101, 32, 111, 117, 116, 32, 111, 102, 32, 114, 97, 110, 103, 101]⟩] 415, .cells #[.string ⟨#[105, 110, 118, 97, 108, 105, 100, 32, 115, 121, 110, 116, 97, 120]⟩] 415], #[], []⟩
 { w0 with heap := l.foldl (fun h x => match Tryz.prog.globalNamed x.1 with
  | some g => h.modify g fun o => match o with
   | .cells _ t frozen => .cells (lCells (if x.1 = "strconv.ErrRange" then N else N + 1) x.2) t frozen
   | o => o
  | none => h) w0.heap }
theorem err_cell {H : Type} {enc : TypeId × Value -> H} {P : Program} {w : World} {base : Nat} {sp : Nat -> Bool} {held : Bool} {fuel : Nat} {t : TypeId} {ms : Array (String × TypeId)} {cs : List Value} {d : DataW H} {p : List MemPlace}
  (ht : P.underlying t = some (.interface ms)) (h : DataW.trod enc P w base sp held fuel t cs = some (d, p)) : ∃ x, cs = [x] /\ (x = .nilIface ∨ ∃ te pe, x = .iface te pe) := by
 cases fuel with
 | zero => simp [DataW.trod] at h
 | succ fuel =>
  simp only [DataW.trod, ht] at h
  split at h
  . rename_i e; cases e
  . rename_i e; cases e
  . rename_i e; cases e
  . rename_i e; cases e
  all_goals first
    | (rename_i e; cases e; done)
    | (exact ⟨_, rfl, .inl rfl⟩)
    | (exact ⟨_, rfl, .inr ⟨_, _, rfl⟩⟩)
    | (cases h; done)
    | skip
theorem reads_row {W : World} {l : List (String × DataW Unit)} (h : laidMetH Tryz.prog l W) {n : String} {d : DataW Unit} (hm : (n, d) ∈ l) (hd : d.handleName?.isNone = true) : VarReads Tryz.prog W n d := by
 obtain ⟨⟨ps, hv, _⟩, _⟩ := laidMetH_iff.1 h
 exact LaidVars_reads hv n d (List.mem_filter.2 ⟨hm, hd⟩)
theorem errAt_row {W : World} {n : String} {d : DataW Unit} {g : Nat} (h : VarReads Tryz.prog W n d) (hg : Tryz.prog.globalNamed n = some g) (hty : (Tryz.prog.globals[g]?).map (·.type) = some 32) : ErrAt W g := by
 obtain ⟨g', t, cs, fuel, p, h1, h2, h3, h4⟩ := h
 obtain rfl := Option.some.inj (hg.symm.trans h1)
 obtain rfl := Option.some.inj (hty.symm.trans h2)
 obtain ⟨x, hx, hc⟩ := err_cell Tryz.underlying32 h4
 refine ⟨x, ?_, hc⟩
 have := World.var?_cell hg h3 0
 rw [this, <- Array.getElem?_toList, hx]
 rfl
theorem var_lt {W : World} {n : String} {d : DataW Unit} {g : Nat} (h : VarReads Tryz.prog W n d) (hg : Tryz.prog.globalNamed n = some g) : g < W.heap.size := by
 obtain ⟨g', t, cs, fuel, p, h1, h2, h3, h4⟩ := h
 obtain rfl := Option.some.inj (hg.symm.trans h1)
 rcases Nat.lt_or_ge g W.heap.size with h5 | h5
 . exact h5
 . unfold World.var? at h3
   rw [hg] at h3
   simp [Array.getElem?_eq_none h5] at h3
theorem st_row {W : World} (h : laidMetH Tryz.prog Rows.configBackRow.laid W) : St W := by
 have r8 := reads_row h (List.mem_of_getElem? (i := 1) (by rfl) : ("math/bits.deBruijn64tab", Rows.laid_math_bits_deBruijn64tab) ∈ Rows.configBackRow.laid) (by kernel_rfl)
 have r3 := reads_row h (List.mem_of_getElem? (i := 2) (by rfl) : ("internal/strconv.uint64pow10", Rows.laid_internal_strconv_uint64pow10) ∈ Rows.configBackRow.laid) (by kernel_rfl)
 have r2 := reads_row h (List.mem_of_getElem? (i := 3) (by rfl) : ("unicode/utf8.acceptRanges", Rows.laid_unicode_utf8_acceptRanges) ∈ Rows.configBackRow.laid) (by kernel_rfl)
 have r6 := reads_row h (List.mem_of_getElem? (i := 4) (by rfl) : ("strconv.ErrRange", Rows.laid_strconv_ErrRange) ∈ Rows.configBackRow.laid) (by kernel_rfl)
 have r5 := reads_row h (List.mem_of_getElem? (i := 5) (by rfl) : ("strconv.ErrSyntax", Rows.laid_strconv_ErrSyntax) ∈ Rows.configBackRow.laid) (by kernel_rfl)
 have r1 := reads_row h (List.mem_of_getElem? (i := 6) (by rfl) : ("unicode/utf8.first", Rows.laid_unicode_utf8_first) ∈ Rows.configBackRow.laid) (by kernel_rfl)
 refine ⟨var_lt r8 (by kernel_rfl : Tryz.prog.globalNamed "math/bits.deBruijn64tab" = some 10), ?_, ?_, errAt_row r5 (by kernel_rfl) (by kernel_rfl), errAt_row r6 (by kernel_rfl) (by kernel_rfl)⟩
 . obtain ⟨g, t, cs, fuel, p, h1, h2, h3, h4⟩ := r3
   obtain rfl := Option.some.inj ((by kernel_rfl : Tryz.prog.globalNamed "internal/strconv.uint64pow10" = some 8).symm.trans h1)
   obtain rfl := Option.some.inj ((by kernel_rfl : (Tryz.prog.globals[8]?).map (·.type) = some 400).symm.trans h2)
   have hd : Rows.laid_internal_strconv_uint64pow10 = (Lib.tabData .u64 Lib.pow10Tab : DataW Unit) := by kernel_rfl
   rw [hd] at h4
   have hcs := cells_of_tab Tryz.underlying400 Tryz.underlying375 (by kernel_rfl) (by kernel_rfl) h4
   show Lib.TabIs Tryz.prog W "internal/strconv.uint64pow10" .u64 Lib.pow10Tab
   unfold Lib.TabIs
   rw [h3, <- hcs]
 . have e1 : Rows.laid_unicode_utf8_first = Lib.firstData := by kernel_rfl
   have e2 : Rows.laid_unicode_utf8_acceptRanges = Lib.acceptData := by kernel_rfl
   rw [e1] at r1
   rw [e2] at r2
   exact utf8Tabs_of_readsT (ρ := lays196_ren) (U8Types.of196 lays196) ⟨by kernel_rfl, by kernel_rfl, by kernel_rfl, by kernel_rfl, by kernel_rfl, by kernel_rfl, by kernel_rfl⟩ r1 r2
theorem metC (os : Os) (args : Array Value) : laidMetH Tryz.prog Rows.configBackRow.laid ((laidWorldC Rows.configBackRow.laid os).forCall (fun _ _ => 0) ⟨#[], args, []⟩).memory :=
 laidMetH_of_parts (laidMet_of_run' 8 (by kernel_rfl) (by kernel_rfl)) (by kernel_rfl)
theorem open_textJ {H : Type} {enc : TypeId × Value -> H} {P : Program} {w : World} {base : Nat} {sp : Nat -> Bool} {held : Bool} {t : TypeId} {v : Value} {d : DataW H} {ps : List MemPlace} {r : Reach} {b0 : Nat}
  (ht : P.underlying t = some .string) (hv : Value.okWide P w r b0 t v) (h : DataW.Trod enc P w base sp held t v d ps) : ∃ s : List UInt8, v = .string ⟨s.toArray⟩ /\ s.length ≤ Rows.uptoBulk d /\ s.length ≤ 9223372036854775807 := by
 obtain ⟨s, rfl, rfl, hs⟩ := Go.ChangeMaps.open_string ht hv h
 refine ⟨s.data.toList, by simp, by simp [Rows.uptoBulk], ?_⟩
 have h1 : s.size ≤ maxLen := by first | exact hs.2 | exact hs | (simpa using hs)
 have h2 : s.data.toList.length = s.size := Array.length_toList
 rw [h2]
 exact h1
end Go.Proofs.YtjohdaobhonioaaGreatDoor
