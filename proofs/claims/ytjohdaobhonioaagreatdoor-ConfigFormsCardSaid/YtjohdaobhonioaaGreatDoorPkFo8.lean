/-
  Parts of the proof: JsOa.
-/
import Derived.Test.YtjohdaobhonioaaGreatDoorProg
import Derived.WalkKit
import Derived.Maps.Own
import Derived.Maps.OwnOps
import Derived.Maps.Views
import Derived.Maps.StringElems
import Derived.Test.YtjohdaobhonioaaGreatDoorPkFo6
import Derived.Test.YtjohdaobhonioaaGreatDoorPkFo7
import Derived.Deep.RegionWith
import Derived.Deep.LoopGhost
namespace Go.Proofs.YtjohdaobhonioaaGreatDoor
open Go.RowKit
namespace Js
theorem plainElem_bool_inv {H : Type} {P : Program} {e : TypeId} (he : P.underlying e = some .bool) {v : Value} {z : DataW H × List MemPlace} (h : plainElem P e v = some z) : ∃ b, v = .bool b /\ z = (.lit (.bool b), []) := by
 unfold plainElem at h
 rw [he] at h
 cases v <;> simp at h
 exact ⟨_, rfl, h.symm⟩
theorem zeroBool (w : World) : (zeroValue 4).run Tryz.prog w = .ok (.bool false) w := by kernel_rfl
def Seen (kt : TypeId) (w : World) (bm N : Nat) (ks : List (List UInt8)) : Prop :=
 ∃ D : DataW Unit, w.ownsMap Tryz.prog kt (plainElem Tryz.prog 4) bm N D /\ Maps.IsMap D /\ ∀ n, D.atKey (.string n) (.lit (.bool false)) = .lit (.bool (decide (n ∈ ks)))
section
variable {kt : TypeId} {w w' : World} {bm N : Nat} {ks : List (List UInt8)}
theorem Seen.lt (h : Seen kt w bm N ks) : bm < w.heap.size := by obtain ⟨D, h, _⟩ := h; exact h.lt
theorem Seen.block (h : Seen kt w bm N ks) (hk : w'.heap[bm]? = w.heap[bm]?) : Seen kt w' bm N ks := by
 obtain ⟨D, ⟨es, clock, hb, r⟩, r2⟩ := h
 exact ⟨D, ⟨es, clock, hk.trans hb, r⟩, r2⟩
theorem Seen.kept {row : Option Nat} (h : Seen kt w bm N ks) (hg : w.grownBy w' row) (hne : some bm ≠ row) : Seen kt w' bm N ks := h.block (hg.block bm h.lt hne)
theorem Seen.alloc (h : Seen kt w bm N ks) (o : Obj) : Seen kt (w.alloc o) bm N ks := h.block (Below.heap_alloc w o bm h.lt)
theorem Seen.drew (h : Seen kt w bm N ks) : Seen kt w.drew bm N ks := h
theorem Seen.made (kt : TypeId) (w : World) : Seen kt (w.alloc (.map #[] 0)) w.heap.size 0 [] :=
 ⟨.map [], World.ownsMap_made _ _ _ _, Maps.isMap_empty, fun _ => rfl⟩
theorem seenKey (hk : Tryz.prog.underlying kt = some .string) (n : List UInt8) (hn : n.length ≤ 140737488355328) : keyOf Tryz.prog kt (.string ⟨n.toArray⟩) = some (.string n) := by
 have := WideMaps.keyOf_string_mk (P := Tryz.prog) (k := kt) hk (s := ⟨n.toArray⟩) (by simp [ByteArray.size, maxLen]; omega)
 simpa using this
theorem Seen.look {T : TypeId} (h : Seen kt w bm N ks) (hk : Tryz.prog.underlying kt = some .string) (ht : Tryz.prog.underlying T = some (.map kt 4)) (n : List UInt8) (hn : n.length ≤ 140737488355328) :
  (Instr.lookup T (.map (some bm)) (.string ⟨n.toArray⟩) false).run Tryz.prog w = .ok (.bool (decide (n ∈ ks))) w := by
 obtain ⟨D, h, _, hf⟩ := h
 obtain ⟨v, ps, hrun, hv⟩ := h.lookup (Maps.string_keyed hk) ht (zeroBool w) (plainElem_bool (P := Tryz.prog) (e := 4) Tryz.underlying4 false) (seenKey hk n hn)
 obtain ⟨b, rfl, hs⟩ := plainElem_bool_inv Tryz.underlying4 hv
 rw [hf n] at hs
 simp only [Prod.mk.injEq] at hs
 have hs1 := DataW.lit.inj hs.1
 have hs2 : decide (n ∈ ks) = b := Lit.bool.inj hs1
 rw [hrun, hs2]
theorem wpList_seen {T : TypeId} {ops : Array Oper} {rest : List Oper} {o : Oper} {a : Act} {Q : Exit -> Act -> World -> Prop}
   (hg : o.guard = none) (m x v : Operand) (hop : o.op = Op.mapUpdate T m x v) (hm : a.eval m = .map (some bm)) (h : Seen kt w bm N ks) (hk : Tryz.prog.underlying kt = some .string) (ht : Tryz.prog.underlying T = some (.map kt 4)) (hN : N ≤ 140737488355328) (k : List UInt8)
   (hx : a.eval x = .string ⟨k.toArray⟩) (hv : a.eval v = .bool true) (hkl : k.length ≤ 140737488355328)
   (hK : ∀ w', Seen kt w' bm (N + 1) (ks ++ [k]) -> w.grownBy w' (some bm) -> wpList Tryz.prog ops Q rest (a.put o.dst undef) w') : wpList Tryz.prog ops Q (o :: rest) a w := by
 obtain ⟨D, ho, hD, hf⟩ := h
 have hval := plainElem_bool (H := Unit) (P := Tryz.prog) (e := 4) Tryz.underlying4 true
 refine wpList_mapUpdate_own w hg m x v T hop kt 4 (Maps.string_keyed hk) ht (plainElem Tryz.prog 4) bm N D hm ho (by unfold maxLen; omega) _ _ (.string k) hx hv (seenKey hk k hkl) _ _ hval fun w' h1 h2 => hK w' ⟨_, h1, hD.put _ _, fun n => ?_⟩ h2
 by_cases e : k = n
 . subst e
   rw [Maps.atKey_put_same hD (by trivial)]
   simp
 . rw [Maps.atKey_put_other (by simpa using fun h => e h.symm), hf n]
   have : ¬ n = k := fun h => e h.symm
   simp [this]
end
end Js
end Go.Proofs.YtjohdaobhonioaaGreatDoor
namespace Go.Proofs.YtjohdaobhonioaaGreatDoor
open Go.RowKit
namespace Js
def nodeV (h : Hd) (iv kv : Value) : Value :=
 if h.kind = 3 then .iface 219 (.int .i64 h.num) else if h.kind = 4 then .iface 212 (.string ⟨h.text.toArray⟩) else if h.kind = 5 then .iface 327 iv
 else if h.kind = 6 then .iface 329 (.agg #[kv, iv]) else .iface 211 (.int .i64 h.kind)
theorem nodeV_one (h : Hd) (iv kv : Value) : (nodeV h iv kv).oneCell' = true := by
 unfold nodeV
 repeat' split
 all_goals rfl
theorem nodeV_iface (h : Hd) (iv kv : Value) : ∃ T y, nodeV h iv kv = .iface T y := by
 unfold nodeV
 repeat' split
 all_goals exact ⟨_, _, rfl⟩
def encN (st : Bool) : Enc where
 sz := 1
 nilk := st
 V h i k := [nodeV h i k]
 len _ _ _ := rfl
 one h A n c A' n' c' x hx := by simp at hx; subst hx; exact nodeV_one _ _ _
theorem TV.iface {st : Bool} {w : World} {S : Nat -> Prop} {h : Hd} {k : F} {u : Value} (hv : TV (encN st) w S h k [u]) : ∃ T y, u = .iface T y := by
 obtain ⟨A, c, A', c', us, e, _⟩ := hv
 simp only [encN, List.cons.injEq, and_true] at e
 subst e
 exact nodeV_iface _ _ _
theorem idx_neg {l : List UInt8} {c : UInt8} (h : c ∉ l) : Lib.indexByte l c < 0 := by
 induction l with
 | nil => show (-1 : Int) < 0; decide
 | cons b r ih =>
  have h1 : ¬ b = c := fun e => h (by simp [e])
  have h2 := ih (fun hc => h (List.mem_cons_of_mem _ hc))
  have h3 := Lib.indexByte_ge r c
  unfold Lib.indexByte
  rw [if_neg (by simpa using h1), if_pos (by rw [beq_iff_eq]; omega)]
  decide
theorem infoNode : (Tryz.prog.info? 129).map (fun i => (i.zero, i.size, i.bytes)) = some (some .nilIface, 1, 16) := by kernel_rfl
theorem Reads.one {w : World} {g : Nat} {u : Value} (h : w.cell? ⟨g, 0, none⟩ = some u) (hg : g < w.heap.size) : Reads w w.heap.size 1 (some ⟨g, 0, none⟩) 1 [u] :=
 ⟨rfl, fun _ => ⟨_, rfl, hg, fun j x hx => by
  match j, hx with
  | 0, hx => simp at hx; subst hx; exact h⟩⟩
theorem cell_new1 (w : World) (u : Value) (t : TypeId) : (w.alloc (.cells #[u] t)).cell? ⟨w.heap.size, 0, none⟩ = some u := cell_of_row _ _ 0 _ t (0, 0) (heap_alloc_new w _)
theorem wp_push {w : World} {o : Oper} {a : Act} {K : Act -> World -> Prop} {Q : Exit -> Act -> World -> Prop} (T : TypeId) (hT : Tryz.prog.underlying T = some (.slice 129)) (s x : Operand)
   (ho : o.op = .call { callee := .builtin .append, args := #[s, x], argTypes := #[T, T] }) (st : Bool)
   (B B' : Nat) (S0 : Nat -> Prop) (v : Value) (f : F) (hs : a.eval s = v) (hL : TL (encN st) w B S0 129 v f)
   (A : Option Addr) (m c : Nat) (news : List Value) (hx : a.eval x = .slice A m c) (hr : Reads w B' 1 A m news) (S2 : Nat -> Prop) (g : F) (hp2 : TR (encN st) w S2 g news) (hm : g.len = m)
   (hS2 : ∀ b, S2 b -> (B ≤ b /\ b < w.heap.size /\ v.ownBlock ≠ some b) ∨ (S0 b /\ b < B)) (hn : f.len + m ≤ 8796093022207) (hB : B ≤ w.heap.size)
   (h : ∀ v' w', TL (encN st) w' B S0 129 v' (f.app g) -> Kp B (fun _ => False) w w' -> K (a.put o.dst v') w') : o.wp Tryz.prog a w K Q := by
 obtain ⟨i0, hi, hz0, hz1, hz2⟩ := info_parts infoNode
 obtain ⟨S, vs, hown, hp, hS⟩ := hL
 subst hm
 refine wp_append_any (P := Tryz.prog) w s x T ho B 129 i0 .nilIface 1 16 hT hi hz0 hz1 hz2 rfl (by decide) v f.len vs hs hown B' A g.len c news hx hr hp2.one (by unfold maxLen; omega) (by omega) hB fun v' w' h1 h2 h3 => h v' w' ?_ ?_
 . exact TL.push (E := encN st) hp hS hp2 hS2 hB (fun b hb => (hown.lt b hb).1) h1 h2 h3
 . exact (Kp.refl _ _ _).grown h2 hB (fun k hk => .inl (hown.lt k hk).1)
theorem wpList_push {w : World} {ops : Array Oper} {rest : List Oper} {o : Oper} {a : Act} {Q : Exit -> Act -> World -> Prop} (hgd : o.guard = none) (T : TypeId) (hT : Tryz.prog.underlying T = some (.slice 129)) (s x : Operand)
  (ho : o.op = .call { callee := .builtin .append, args := #[s, x], argTypes := #[T, T] }) (st : Bool)
  (B B' : Nat) (S0 : Nat -> Prop) (v : Value) (f : F) (hs : a.eval s = v) (hL : TL (encN st) w B S0 129 v f)
  (A : Option Addr) (m c : Nat) (news : List Value) (hx : a.eval x = .slice A m c) (hr : Reads w B' 1 A m news) (S2 : Nat -> Prop) (g : F) (hp2 : TR (encN st) w S2 g news) (hm : g.len = m)
  (hS2 : ∀ b, S2 b -> (B ≤ b /\ b < w.heap.size /\ v.ownBlock ≠ some b) ∨ (S0 b /\ b < B)) (hn : f.len + m ≤ 8796093022207) (hB : B ≤ w.heap.size)
  (h : ∀ v' w', TL (encN st) w' B S0 129 v' (f.app g) -> Kp B (fun _ => False) w w' -> wpList Tryz.prog ops Q rest (a.put o.dst v') w') : wpList Tryz.prog ops Q (o :: rest) a w :=
 wpList_plain hgd fun _ hK => wp_push T hT s x ho st B B' S0 v f hs hL A m c news hx hr S2 g hp2 hm hS2 hn hB fun v' w' h2 h3 => hK _ _ (h v' w' h2 h3)
def NdPost (rb : Nat) (s : List UInt8) (O : Out) (w : World) (x : Ending) (w' : World) : Prop :=
 match O with
 | .ok h k r => ∃ u q S, x = .returned (.tuple #[u, .nilIface]) /\ TV (encN true) w' S h k [u] /\ (∀ b, S b -> w.heap.size ≤ b /\ b < w'.heap.size) /\ q ≤ s.length /\ r = s.drop q /\ Rdr w' rb s q /\ Kp w.heap.size (· = rb) w w'
 | .err no r => ∃ u q a, x = .returned (.tuple #[u, faultV no (a : Nat)]) /\ a + r.length = s.length /\ q ≤ s.length /\ Rdr w' rb s q /\ Kp w.heap.size (· = rb) w w'
def NodeC (s : List UInt8) (rb m : Nat) : Prop := ∀ (p d : Nat) (w : World), p ≤ s.length -> s.length - p ≤ m -> d ≤ 33 -> St w -> Rdr w rb s p ->
 Calls Tryz.prog 55 #[.pointer (some ⟨rb, 0, none⟩), .int .i64 d] w (NdPost rb s (val d (s.drop p)) w)
def ListC (s : List UInt8) (rb m : Nat) : Prop := ∀ (p d : Nat) (w : World), p ≤ s.length -> s.length - p ≤ m -> d ≤ 32 -> St w -> Rdr w rb s p ->
 Calls Tryz.prog 149 #[.pointer (some ⟨rb, 0, none⟩), .int .i64 d] w (NdPost rb s (listO d (s.drop p)) w)
def ObjC (s : List UInt8) (rb m : Nat) : Prop := ∀ (p d : Nat) (w : World), p ≤ s.length -> s.length - p ≤ m -> d ≤ 32 -> St w -> Rdr w rb s p ->
 Calls Tryz.prog 150 #[.pointer (some ⟨rb, 0, none⟩), .int .i64 d] w (NdPost rb s (objO d (s.drop p)) w)
theorem val_bl (d : Nat) (t : List UInt8) : val d (bl t) = val d t := by rw [val_eq, val_eq, bl_bl]
theorem items_bl (d : Nat) (t : List UInt8) : items d (bl t) = items d t := by rw [items_eq, items_eq, val_bl]
theorem key_bl (ks : List (List UInt8)) (t : List UInt8) : key ks (bl t) = key ks t := by unfold key; rw [bl_bl]
theorem mems_bl (ks : List (List UInt8)) (d : Nat) (t : List UInt8) : mems ks d (bl t) = mems ks d t := by rw [mems_eq, mems_eq, key_bl]
def Out.consF (f : F) : Out -> Out
 | .err no r => .err no r
 | .ok h g r => .ok h (f.app g) r
theorem Out.consF_nil (O : Out) : O.consF .nil = O := by cases O <;> rfl
theorem Out.consF_snoc (f : F) (h : Hd) (k : F) (O : Out) : (O.consL h k).consF f = O.consF (f.app (.cons h k .nil)) := by
 cases O with
 | err no r => rfl
 | ok h0 g r => simp [Out.consL, Out.consF, F.app_assoc, F.app]
theorem TL.node {w : World} {B : Nat} {v : Value} {f : F} (h : TL (encN true) w B (fun _ => False) 129 v f) (hf : f.len ≤ 4398046511104) :
   ∃ S : Nat -> Prop, TV (encN true) w S (plainH 5) f [.iface 327 v] /\ ∀ b, S b -> B ≤ b /\ b < w.heap.size := by
 obtain ⟨S, vs, ho, hp, hS⟩ := h
 obtain ⟨A, c, rfl, hr⟩ := RdS.of_own ho
 refine ⟨fun b => S b ∨ (Value.slice A f.len c).ownBlock = some b, ⟨A, c, none, 0, vs, rfl, hf, ⟨by simp [plainH], fun _ _ => ⟨rfl, rfl⟩⟩, hr.more fun b hb => .inr hb, hp.more fun b hb => .inl hb, RdS.none_⟩, fun b hb => ?_⟩
 rcases hb with hb | hb
 . rcases hS b hb with ⟨h1, h2, _⟩ | ⟨h1, _⟩
   . exact ⟨h1, h2⟩
   . exact h1.elim
 . exact own_lt ho hb
end Js
end Go.Proofs.YtjohdaobhonioaaGreatDoor
namespace Go.Proofs.YtjohdaobhonioaaGreatDoor
open Go.RowKit
section
variable {P : Program} {ops : Array Oper} {Q : Exit -> Act -> World -> Prop} {md : Region.Mode} {S : World -> Prop} {z : Nat}
def AllReadyR (P : Program) (md : Region.Mode) (ops : Array Oper) (Q : Exit -> Act -> World -> Prop) (S : World -> Prop) (z : Nat) (fuel : Nat) (listed : Array Bool) (a : Act) (w : World) (rs : List Nat) : Prop :=
 ∀ i ∈ rs, wpOp P ops Q i (fun a' w' => (i ≠ z -> S w') /\ wpAnyR P md ops Q S z fuel (listed.setIfInBounds i true) a' w') a w
theorem AllReadyR.nil {fuel : Nat} {listed : Array Bool} {a : Act} {w : World} : AllReadyR P md ops Q S z fuel listed a w [] := fun _ h => by cases h
theorem AllReadyR.cons {fuel : Nat} {listed : Array Bool} {a : Act} {w : World} {i : Nat} {o : Oper} {rs : List Nat} (ho : ops[i]? = some o)
   (h : ∀ K' : Act -> World -> Prop, Shut (∀ a w, (i ≠ z -> S w) -> ((i ≠ z -> S w) -> wpAnyR P md ops Q S z fuel (listed.setIfInBounds i true) a w) -> K' a w) -> if Region.wanted o (yielded ops a.tmps) = true then Oper.wp P o a w K' Q else K' (a.put o.dst undef) w)
   (hs : AllReadyR P md ops Q S z fuel listed a w rs) : AllReadyR P md ops Q S z fuel listed a w (i :: rs) := fun j hj => by
 rcases List.mem_cons.1 hj with rfl | hj
 . exact wpOp_step ho (fun K' hK => h K' (fun a w hS hW => hK a w ⟨hS, hW hS⟩))
 . exact hs j hj
theorem rdyR {fuel : Nat} {listed : Array Bool} {a : Act} {w : World} {i : Nat} {o : Oper} {rs : List Nat}
 (h : ∀ K' : Act -> World -> Prop, Shut (∀ a w, (i ≠ z -> S w) -> ((i ≠ z -> S w) -> wpAnyR P md ops Q S z fuel (listed.setIfInBounds i true) a w) -> K' a w) -> if Region.wanted o (yielded ops a.tmps) = true then Oper.wp P o a w K' Q else K' (a.put o.dst undef) w)
 (hs : AllReadyR P md ops Q S z fuel listed a w rs) (ho : ops[i]? = some o := by simp only [List.getElem?_toArray, List.getElem?_cons_succ, List.getElem?_cons_zero]; rfl) : AllReadyR P md ops Q S z fuel listed a w (i :: rs) := .cons ho h hs
theorem oneR (i : Nat) {o : Oper} {fuel : Nat} {listed : Array Bool} {a : Act} {w : World} (h : ∀ K' : Act -> World -> Prop, Shut (∀ a w, (i ≠ z -> S w) -> ((i ≠ z -> S w) -> wpAnyR P md ops Q S z fuel (listed.setIfInBounds i true) a w) -> K' a w) -> if Region.wanted o (yielded ops a.tmps) = true then Oper.wp P o a w K' Q else K' (a.put o.dst undef) w)
 (hr : Region.ready md ops listed = [i] := by kernel_rfl) (ho : ops[i]? = some o := by simp only [List.getElem?_toArray, List.getElem?_cons_succ, List.getElem?_cons_zero]; rfl) : wpAnyR P md ops Q S z (fuel + 1) listed a w := wpAnyR_one hr ho h
theorem wpAnyR_ready {rs : List Nat} {fuel : Nat} {listed : Array Bool} {a : Act} {w : World} (hr : Region.ready md ops listed = rs) (hne : rs ≠ [])
  (h : AllReadyR P md ops Q S z fuel listed a w rs) : wpAnyR P md ops Q S z (fuel + 1) listed a w :=
 ⟨fun h0 => absurd (hr.symm.trans h0) hne, fun j hj => h j (hr ▸ hj)⟩
end
namespace Js
theorem own_own_ne {w : World} {B B' size size' n n' : Nat} {e e' : TypeId} {v v' : Value} {xs xs' : List Value} (h : w.ownsRow B e size v n xs) (h' : w.ownsRow B' e' size' v' n' xs') (hne : e ≠ e') {b : Nat} (hb : v.ownBlock = some b) : v'.ownBlock ≠ some b := by
 intro hb'
 rcases h.2 with ⟨rfl, _⟩ | ⟨g, cap, cur, rfl, _, hg, _⟩
 . simp [Value.ownBlock] at hb
 . rcases h'.2 with ⟨rfl, _⟩ | ⟨g', cap', cur', rfl, _, hg', _⟩
   . simp [Value.ownBlock] at hb'
   . have e1 : g = b := by simpa [Value.ownBlock] using hb
     have e2 : g' = b := by simpa [Value.ownBlock] using hb'
     subst e1 e2
     rw [hg] at hg'
     injection hg' with hg'
     injection hg' with _ ht
     exact hne ht
theorem Seen.setCell {kt : TypeId} {w : World} {bm N : Nat} {ks : List (List UInt8)} (h : Seen kt w bm N ks) {p : Addr} (hp : bm ≠ p.block) (u : Value) : Seen kt (w.setCell p u) bm N ks := h.block (Below.heap_setCell w p u bm hp)
structure KI (w : World) (B : Nat) (v1 : Value) (ks : List (List UInt8)) (v2 : Value) (f : F) : Prop where
 keys : w.ownsRow B 9 1 v1 ks.length (tx ks)
 items : ∃ (S : Nat -> Prop) (vs : List Value), w.ownsRow B 129 1 v2 f.len vs /\ TR (encN true) w S f vs /\ ∀ b, S b -> B ≤ b /\ b < w.heap.size /\ v1.ownBlock ≠ some b /\ v2.ownBlock ≠ some b
 size : B ≤ w.heap.size
theorem KI.nil (w : World) (B : Nat) (hB : B ≤ w.heap.size) : KI w B (.slice none 0 0) [] (.slice none 0 0) .nil :=
 ⟨World.ownsRow_nil _ _ _ _, ⟨fun _ => False, [], World.ownsRow_nil _ _ _ _, rfl, fun _ h => h.elim⟩, hB⟩
section
variable {w w' : World} {B : Nat} {v1 v2 : Value} {ks : List (List UInt8)} {f : F}
theorem KI.ne (h : KI w B v1 ks v2 f) {b : Nat} (hb : v1.ownBlock = some b) : v2.ownBlock ≠ some b := by
 obtain ⟨S, vs, ho, _⟩ := h.items
 exact own_own_ne h.keys ho (by decide) hb
theorem KI.kept (h : KI w B v1 ks v2 f) (hk : ∀ b, B ≤ b -> b < w.heap.size -> w'.heap[b]? = w.heap[b]?) (hs : w.heap.size ≤ w'.heap.size) : KI w' B v1 ks v2 f := by
 obtain ⟨S, vs, ho, hp, hS⟩ := h.items
 refine ⟨own_at h.keys fun b hb => hk b (own_lt h.keys hb).1 (own_lt h.keys hb).2, ⟨S, vs, own_at ho fun b hb => hk b (own_lt ho hb).1 (own_lt ho hb).2, hp.kept fun p hp => World.cell?_of_block (hk _ (hS _ hp).1 (hS _ hp).2.1), fun b hb => ⟨(hS b hb).1, by have := (hS b hb).2.1; omega, (hS b hb).2.2⟩⟩, Nat.le_trans h.size hs⟩
theorem KI.setCell (h : KI w B v1 ks v2 f) {p : Addr} (hp : p.block < B) (u : Value) : KI (w.setCell p u) B v1 ks v2 f := h.kept (fun b h1 _ => Below.heap_setCell w p u b (by omega)) (by simp)
theorem KI.alloc (h : KI w B v1 ks v2 f) (o : Obj) : KI (w.alloc o) B v1 ks v2 f := h.kept (fun b _ hb => Below.heap_alloc w o b hb) (by simp)
theorem KI.kp {X : Nat -> Prop} {C : Nat} (h : KI w B v1 ks v2 f) (hk : Kp C X w w') (hC : w.heap.size ≤ C) (hX : ∀ b, B ≤ b -> b < w.heap.size -> ¬ X b) : KI w' B v1 ks v2 f :=
 h.kept (fun b h1 h2 => hk.block b (by omega) (hX b h1 h2)) hk.size
theorem KI.form1 (h : KI w B v1 ks v2 f) : ∃ A c, v1 = .slice A ks.length c := by
 obtain ⟨A, c, h, _⟩ := own_readsN h.keys
 exact ⟨A, c, h⟩
theorem KI.formn (h : KI w B v1 ks v2 f) : (∃ A n c, v1 = .slice A n c) /\ ∃ A n c, v2 = .slice A n c := by
 obtain ⟨A, c, e⟩ := h.form1
 obtain ⟨S, vs, ho, _⟩ := h.items
 obtain ⟨A', c', e', _⟩ := own_readsN ho
 exact ⟨⟨_, _, _, e⟩, ⟨_, _, _, e'⟩⟩
theorem KI.form2 (h : KI w B v1 ks v2 f) : ∃ A c, v2 = .slice A f.len c := by
 obtain ⟨S, vs, ho, _⟩ := h.items
 obtain ⟨A, c, h, _⟩ := own_readsN ho
 exact ⟨A, c, h⟩
theorem KI.off1 (h : KI w B v1 ks v2 f) {g : Nat} {t : TypeId} {cs : Array Value} (hg : Blk w g t cs) (h1 : 9 ≠ t) : v1.ownBlock ≠ some g := own_blk_ne h.keys hg h1
theorem KI.off2 (h : KI w B v1 ks v2 f) {g : Nat} {t : TypeId} {cs : Array Value} (hg : Blk w g t cs) (h1 : 129 ≠ t) : v2.ownBlock ≠ some g := by
 obtain ⟨S, vs, ho, _⟩ := h.items
 exact own_blk_ne ho hg h1
theorem KI.key (h : KI w B v1 ks v2 f) {v1' : Value} {t : List UInt8} (ho' : w'.ownsRow B 9 1 v1' (ks.length + 1) (tx ks ++ [.string ⟨t.toArray⟩])) (hg : w.grownBy w' v1.ownBlock) (hl : v1'.ownBlock = v1.ownBlock ∨ v1'.ownBlock = some w.heap.size) : KI w' B v1' (ks ++ [t]) v2 f := by
 obtain ⟨S, vs, ho, hp, hS⟩ := h.items
 refine ⟨by rw [tx_append, List.length_append]; exact ho', ⟨S, vs, own_at ho fun b hb => hg.block b (own_lt ho hb).2 (fun e => h.ne e.symm hb), hp.kept fun p hp => World.cell?_of_block (hg.block _ (hS _ hp).2.1 (fun e => (hS _ hp).2.2.1 e.symm)), fun b hb => ?_⟩, Nat.le_trans h.size hg.size⟩
 obtain ⟨a1, a2, a3, a4⟩ := hS b hb
 refine ⟨a1, by have := hg.size; omega, fun e => ?_, a4⟩
 rcases hl with hl | hl
 . exact a3 (hl.symm.trans e)
 . rw [hl] at e; cases e; omega
end
def TU (w : World) (B : Nat) (v1 v2 : Value) (S2 : Nat -> Prop) (h : Hd) (k : F) (u : Value) : Prop := TR (encN true) w S2 (.cons h k .nil) [u] /\ ∀ b, S2 b -> B ≤ b /\ b < w.heap.size /\ v1.ownBlock ≠ some b /\ v2.ownBlock ≠ some b
theorem KI.item {w w' : World} {B : Nat} {v1 v2 v2' : Value} {ks : List (List UInt8)} {f : F} {S2 : Nat -> Prop} {h0 : Hd} {k : F} {u : Value} {S : Nat -> Prop} {vs : List Value} (h : KI w B v1 ks v2 f) (hp : TR (encN true) w S f vs) (hS : ∀ b, S b -> B ≤ b /\ b < w.heap.size /\ v1.ownBlock ≠ some b /\ v2.ownBlock ≠ some b) (hu : TU w B v1 v2 S2 h0 k u)
   (ho' : w'.ownsRow B 129 1 v2' (f.len + 1) (vs ++ [u])) (hg : w.grownBy w' v2.ownBlock) (hl : v2'.ownBlock = v2.ownBlock ∨ v2'.ownBlock = some w.heap.size) : KI w' B v1 ks v2' (f.app (.cons h0 k .nil)) := by
 have hU : ∀ b, (S b ∨ S2 b) -> B ≤ b /\ b < w.heap.size /\ v1.ownBlock ≠ some b /\ v2.ownBlock ≠ some b := fun b hb => hb.elim (hS b) (hu.2 b)
 refine ⟨own_at h.keys fun b hb => hg.block b (own_lt h.keys hb).2 (fun e => h.ne hb e.symm), ⟨fun b => S b ∨ S2 b, vs ++ [u], by rw [F.len_app]; exact ho', ((hp.more fun b h => .inl h).app (hu.1.more fun b h => .inr h)).kept fun p hp => World.cell?_of_block (hg.block _ (hU _ hp).2.1 (fun e => (hU _ hp).2.2.2 e.symm)), fun b hb => ?_⟩, Nat.le_trans h.size hg.size⟩
 obtain ⟨a1, a2, a3, a4⟩ := hU b hb
 refine ⟨a1, by have := hg.size; omega, a3, fun e => ?_⟩
 rcases hl with hl | hl
 . exact a4 (hl.symm.trans e)
 . rw [hl] at e; cases e; omega
theorem KI.node {w : World} {B : Nat} {v1 v2 : Value} {ks : List (List UInt8)} {f : F} (h : KI w B v1 ks v2 f) (hk : ks ≠ []) (hl : ks.length ≤ 4398046511104) (hf : f.len ≤ 4398046511104) :
   ∃ S : Nat -> Prop, TV (encN true) w S ⟨6, 0, [], ks⟩ f [.iface 329 (.agg #[v1, v2])] /\ ∀ b, S b -> B ≤ b /\ b < w.heap.size := by
 obtain ⟨S, vs, ho, hp, hS⟩ := h.items
 have hkk := h.keys
 obtain ⟨A, c, rfl, hr⟩ := RdS.of_own ho
 obtain ⟨A', c', rfl, hr'⟩ := RdS.of_own hkk
 refine ⟨fun b => S b ∨ (Value.slice A f.len c).ownBlock = some b ∨ (Value.slice A' ks.length c').ownBlock = some b, ⟨A, c, A', c', vs, rfl, hf, ⟨hl, fun _ h => absurd h hk⟩, hr.more fun b hb => .inr (.inl hb), hp.more fun b hb => .inl hb, hr'.more fun b hb => .inr (.inr hb)⟩, fun b hb => ?_⟩
 rcases hb with hb | hb | hb
 . exact ⟨(hS b hb).1, (hS b hb).2.1⟩
 . exact own_lt ho hb
 . exact own_lt hkk hb
structure OB (w0 : World) (X : Nat -> Prop) (rb : Nat) (s : List UInt8) (q ob bm N : Nat) (ss : List (List UInt8)) (c1 c2 v1 : Value) (ks : List (List UInt8)) (v2 : Value) (f : F) (S2 : Nat -> Prop) (h : Hd) (k : F) (u : Value) (t : List UInt8) (g1 g2 : Option Nat) (w : World) : Prop where
 rd : Rdr w rb s q
 kp : Kp w0.heap.size X w0 w
 ob : Blk w ob 329 #[c1, c2]
 seen : Seen 212 w bm N ss
 li : KI w w0.heap.size v1 ks v2 f
 tu : TU w w0.heap.size v1 v2 S2 h k u
 t1 : ∀ g, g1 = some g -> Blk w g 9 #[.string ⟨t.toArray⟩] /\ v1.ownBlock ≠ some g /\ v2.ownBlock ≠ some g
 t2 : ∀ g, g2 = some g -> Blk w g 129 #[u] /\ v1.ownBlock ≠ some g /\ v2.ownBlock ≠ some g
section
variable {w0 w w' : World} {X : Nat -> Prop} {rb : Nat} {s : List UInt8} {q ob bm N : Nat} {ss : List (List UInt8)} {c1 c2 v1 : Value} {ks : List (List UInt8)} {v2 : Value} {f : F} {S2 : Nat -> Prop} {h : Hd} {k : F} {u : Value} {t : List UInt8} {g1 g2 : Option Nat}
theorem OB.z0 (b : OB w0 X rb s q ob bm N ss c1 c2 v1 ks v2 f S2 h k u t g1 g2 w) : w.cell? ⟨ob, 0, none⟩ = some c1 := b.ob.cell 0
theorem OB.z1 (b : OB w0 X rb s q ob bm N ss c1 c2 v1 ks v2 f S2 h k u t g1 g2 w) : w.cell? ⟨ob, 1, none⟩ = some c2 := b.ob.cell 1
theorem OB.drew (b : OB w0 X rb s q ob bm N ss c1 c2 v1 ks v2 f S2 h k u t g1 g2 w) : OB w0 X rb s q ob bm N ss c1 c2 v1 ks v2 f S2 h k u t g1 g2 w.drew :=
 ⟨b.rd, b.kp.drew, b.ob, b.seen, b.li.kept (fun _ _ _ => rfl) (Nat.le_refl _), ⟨b.tu.1.kept fun _ _ => rfl, b.tu.2⟩, b.t1, b.t2⟩
theorem TU.alloc {B : Nat} (hu : TU w B v1 v2 S2 h k u) (o : Obj) : TU (w.alloc o) B v1 v2 S2 h k u :=
 ⟨hu.1.kept fun p hp => World.cell?_alloc_lt _ _ _ (hu.2 _ hp).2.1, fun b hb => ⟨(hu.2 b hb).1, by have := (hu.2 b hb).2.1; simp; omega, (hu.2 b hb).2.2⟩⟩
theorem OB.alloc (b : OB w0 X rb s q ob bm N ss c1 c2 v1 ks v2 f S2 h k u t g1 g2 w) (o : Obj) : OB w0 X rb s q ob bm N ss c1 c2 v1 ks v2 f S2 h k u t g1 g2 (w.alloc o) :=
 ⟨Blk.alloc b.rd o, b.kp.alloc b.li.size o, b.ob.alloc o, b.seen.alloc o, b.li.alloc o, b.tu.alloc o, fun g e => ⟨(b.t1 g e).1.alloc o, (b.t1 g e).2⟩, fun g e => ⟨(b.t2 g e).1.alloc o, (b.t2 g e).2⟩⟩
theorem KI.off_new {B : Nat} (b : KI w B v1 ks v2 f) : v1.ownBlock ≠ some w.heap.size /\ v2.ownBlock ≠ some w.heap.size := by
 refine ⟨fun e => ?_, fun e => ?_⟩
 . have := own_lt b.keys e; omega
 . obtain ⟨S, vs, ho, _⟩ := b.items
   have := own_lt ho e; omega
theorem OB.put1 (b : OB w0 X rb s q ob bm N ss c1 c2 v1 ks v2 f S2 h k u t none g2 w) : OB w0 X rb s q ob bm N ss c1 c2 v1 ks v2 f S2 h k u t (some w.heap.size) g2 (w.alloc (.cells #[.string ⟨t.toArray⟩] 9)) :=
 have a := b.alloc (.cells #[.string ⟨t.toArray⟩] 9)
 ⟨a.rd, a.kp, a.ob, a.seen, a.li, a.tu, fun g e => by cases e; exact ⟨Blk.new _ _ _, b.li.off_new⟩, a.t2⟩
theorem OB.put2 (b : OB w0 X rb s q ob bm N ss c1 c2 v1 ks v2 f S2 h k u t g1 none w) : OB w0 X rb s q ob bm N ss c1 c2 v1 ks v2 f S2 h k u t g1 (some w.heap.size) (w.alloc (.cells #[u] 129)) :=
 have a := b.alloc (.cells #[u] 129)
 ⟨a.rd, a.kp, a.ob, a.seen, a.li, a.tu, a.t1, fun g e => by cases e; exact ⟨Blk.new _ _ _, b.li.off_new⟩⟩
theorem Seen.map_ne {kt : TypeId} (hs : Seen kt w bm N ss) {base size n : Nat} {e : TypeId} {v : Value} {xs : List Value} (ho : w.ownsRow base e size v n xs) : v.ownBlock ≠ some bm := by
 obtain ⟨D, ⟨es, clock, hb, _⟩, _⟩ := hs
 rcases ho.2 with ⟨rfl, _⟩ | ⟨g, cap, cur, rfl, _, hg, _⟩
 . simp [Value.ownBlock]
 . intro e1
   have e2 : g = bm := by simpa [Value.ownBlock] using e1
   subst e2
   rw [hb] at hg
   cases hg
theorem step_key {o : Oper} {a : Act} {K : Act -> World -> Prop} {Q : Exit -> Act -> World -> Prop} (sl x : Operand) (ho : o.op = .call { callee := .builtin .append, args := #[sl, x], argTypes := #[23, 23] }) {g : Nat}
   (b : OB w0 X rb s q ob bm N ss c1 c2 v1 ks v2 f S2 h k u t (some g) g2 w) (hrb : rb < w0.heap.size) (hs : a.eval sl = v1) (hx : a.eval x = .slice (some ⟨g, 0, none⟩) 1 1) (hn : ks.length ≤ 4398046511104)
   (hK : ∀ v1' w', OB w0 X rb s q ob bm N ss c1 c2 v1' (ks ++ [t]) v2 f S2 h k u t none g2 w' -> K (a.put o.dst v1') w') : o.wp Tryz.prog a w K Q := by
 obtain ⟨i0, hi, hz0, hz1, hz2⟩ := info_parts infoStr
 obtain ⟨ht1, _, _⟩ := b.t1 g rfl
 refine wp_append_any (P := Tryz.prog) w sl x 23 ho w0.heap.size 9 i0 (.string .empty) 1 16 Tryz.underlying23 hi hz0 hz1 hz2 rfl (by decide) v1 ks.length (tx ks) hs b.li.keys w.heap.size (some ⟨g, 0, none⟩) 1 1 [.string ⟨t.toArray⟩] hx (Reads.one (ht1.cell 0) ht1.lt) (by simp [Value.oneCell']) (by unfold maxLen; omega) (by omega) b.li.size fun v' w' h1 h2 h3 => hK v' w' ?_
 have hob := b.li.off1 b.ob (by decide)
 have hmp := b.seen.map_ne b.li.keys
 have hrr : v1.ownBlock ≠ some rb := fun e => by have := own_lt b.li.keys e; omega
 refine ⟨b.rd.grown h2 (fun e => hrr e.symm), b.kp.grown h2 b.li.size (fun k hk => .inl (own_lt b.li.keys hk).1), b.ob.grown h2 (fun e => hob e.symm), b.seen.kept h2 (fun e => hmp e.symm), b.li.key h1 h2 h3, ⟨b.tu.1.kept fun p hp => World.cell?_of_block (h2.block _ (b.tu.2 _ hp).2.1 (fun e => (b.tu.2 _ hp).2.2.1 e.symm)), fun b' hb => ?_⟩, (fun g e => by cases e), fun g' e => ?_⟩
 . obtain ⟨a1, a2, a3, a4⟩ := b.tu.2 b' hb
   refine ⟨a1, by have := h2.size; omega, fun e => ?_, a4⟩
   rcases h3 with hl | hl
   . exact a3 (hl.symm.trans e)
   . rw [hl] at e; cases e; omega
 . obtain ⟨d1, d2, d3⟩ := b.t2 g' e
   refine ⟨d1.grown h2 (fun e => d2 e.symm), fun e => ?_, d3⟩
   rcases h3 with hl | hl
   . exact d2 (hl.symm.trans e)
   . rw [hl] at e; cases e; have := d1.lt; omega
theorem step_item {o : Oper} {a : Act} {K : Act -> World -> Prop} {Q : Exit -> Act -> World -> Prop} (sl x : Operand) (ho : o.op = .call { callee := .builtin .append, args := #[sl, x], argTypes := #[324, 324] }) {g : Nat}
  (b : OB w0 X rb s q ob bm N ss c1 c2 v1 ks v2 f S2 h k u t none (some g) w) (hrb : rb < w0.heap.size) (hs : a.eval sl = v2) (hx : a.eval x = .slice (some ⟨g, 0, none⟩) 1 1) (hn : f.len ≤ 4398046511104)
  (hK : ∀ v2' w', Rdr w' rb s q -> Kp w0.heap.size X w0 w' -> Blk w' ob 329 #[c1, c2] -> Seen 212 w' bm N ss -> KI w' w0.heap.size v1 ks v2' (f.app (.cons h k .nil)) -> K (a.put o.dst v2') w') : o.wp Tryz.prog a w K Q := by
 obtain ⟨i0, hi, hz0, hz1, hz2⟩ := info_parts infoNode
 obtain ⟨ht1, _, _⟩ := b.t2 g rfl
 obtain ⟨S, vs, hown, hp, hS⟩ := b.li.items
 refine wp_append_any (P := Tryz.prog) w sl x 324 ho w0.heap.size 129 i0 .nilIface 1 16 Tryz.underlying324 hi hz0 hz1 hz2 rfl (by decide) v2 f.len vs hs hown w.heap.size (some ⟨g, 0, none⟩) 1 1 [u] hx (Reads.one (ht1.cell 0) ht1.lt) b.tu.1.one (by unfold maxLen; omega) (by omega) b.li.size fun v' w' h1 h2 h3 => ?_
 have hob := b.li.off2 b.ob (by decide)
 have hmp := b.seen.map_ne hown
 have hrr : v2.ownBlock ≠ some rb := fun e => by have := own_lt hown e; omega
 exact hK v' w' (b.rd.grown h2 (fun e => hrr e.symm)) (b.kp.grown h2 b.li.size (fun k hk => .inl (own_lt hown hk).1)) (b.ob.grown h2 (fun e => hob e.symm)) (b.seen.kept h2 (fun e => hmp e.symm)) (b.li.item hp hS b.tu h1 h2 h3)
end
end Js
end Go.Proofs.YtjohdaobhonioaaGreatDoor
namespace Go.Proofs.YtjohdaobhonioaaGreatDoor
open Go.RowKit
namespace Js
def isC (c : UInt8) (t : List UInt8) : Bool := match bl t with
 | [] => false
 | d :: _ => decide (d = c)
set_option maxHeartbeats 16000000 in
set_option maxRecDepth 100000 in
theorem list_step (s : List UInt8) (rb m : Nat) (hs : s.length ≤ 4398046511104) (hrb : 11 ≤ rb) (hN : NodeC s rb m) : ListC s rb m := by
 intro p d w hp hm hd hst hr
 have HN := Lib.hid hN
 have HBL := Lib.hid (blanks_any s hs p rb hp w.drew hr)
 have HST := Lib.hid hst
 have HRB := Lib.hid hrb
 have HM := Lib.hid hm
 have HW : Hid (rb < w.heap.size) := Lib.hid (Blk.lt hr)
 clear hN hst hr hrb hm
 obtain ⟨O, hO⟩ : ∃ O, O = listO d (s.drop p) := ⟨_, rfl⟩
 rw [<- hO]
 have HO := Lib.hid hO
 clear hO
 go_enter Tryz.func149, Tryz.ntmps149
 go_upto_region 2 with fail
 go_cut [24] (fun z wx => ∃ q : Nat, z = .bool (isC 93 (s.drop p)) /\ p ≤ q /\ q ≤ s.length /\ Hid (s.drop q = bl (s.drop p)) /\ Hid (Rdr wx rb s q) /\ Hid (Kp w.heap.size (· = rb) w wx))
 case first =>
  cases hb : bl (s.drop p) with
  | nil =>
    have HI : Hid (isC 93 (s.drop p) = false) := Lib.hid (by unfold isC; rw [hb])
    refine wp_region_held_drew (S := (fun _ => True)) (by kernel_rfl) trivial (fun hHeld => ?_)
    refine tk 0 (h := ?_)
    try simp only [Act.put, List.setIfInBounds_toArray, List.set_cons_zero, List.set_cons_succ]
    refine wpAnyH_ready (rs := [1]) (by kernel_rfl) (by simp) ?_
    refine rdy (fun K hK => ?_) AllReadyH.nil
    rw [if_pos (by rfl)]
    go_simp
    refine HBL.out.mono ?_
    rintro x w1 ⟨q, rfl, hpq, hq, he, hr1, hk1⟩
    obtain rfl : q = s.length := drop_nil_len hq (he.trans hb)
    rw [show decide (s.length < s.length) = false from decide_eq_false (Nat.lt_irrefl _)]
    refine hK.out _ _ trivial (fun _ => ?_)
    clear hK
    try simp only [Act.put, List.setIfInBounds_toArray, List.set_cons_zero, List.set_cons_succ]
    refine tk 2 (h := ?_)
    try simp only [Act.put, List.setIfInBounds_toArray, List.set_cons_zero, List.set_cons_succ]
    refine tks 3 (h := ?_)
    try simp only [Act.put, List.setIfInBounds_toArray, List.set_cons_zero, List.set_cons_succ]
    refine tks 4 (h := ?_)
    try simp only [Act.put, List.setIfInBounds_toArray, List.set_cons_zero, List.set_cons_succ]
    refine tks 5 (h := ?_)
    try simp only [Act.put, List.setIfInBounds_toArray, List.set_cons_zero, List.set_cons_succ]
    refine tks 6 (h := ?_)
    try simp only [Act.put, List.setIfInBounds_toArray, List.set_cons_zero, List.set_cons_succ]
    refine tks 7 (h := ?_)
    try simp only [Act.put, List.setIfInBounds_toArray, List.set_cons_zero, List.set_cons_succ]
    refine tks 8 (h := ?_)
    try simp only [Act.put, List.setIfInBounds_toArray, List.set_cons_zero, List.set_cons_succ]
    refine tks 9 (h := ?_)
    try simp only [Act.put, List.setIfInBounds_toArray, List.set_cons_zero, List.set_cons_succ]
    refine tks 10 (h := ?_)
    try simp only [Act.put, List.setIfInBounds_toArray, List.set_cons_zero, List.set_cons_succ]
    refine tks 11 (h := ?_)
    try simp only [Act.put, List.setIfInBounds_toArray, List.set_cons_zero, List.set_cons_succ]
    refine tks 12 (h := ?_)
    try simp only [Act.put, List.setIfInBounds_toArray, List.set_cons_zero, List.set_cons_succ]
    refine tk 13 (h := ?_)
    try simp only [Act.put, List.setIfInBounds_toArray, List.set_cons_zero, List.set_cons_succ]
    refine wpAnyH_done (by kernel_rfl) ?_ _
    go_wp2_with fail
    go_meet
    exact ⟨s.length, by rw [HI.out], hp, Nat.le_refl _, Lib.hid he, Lib.hid hr1, Lib.hid ((Kp.refl _ _ _).drew.trans hk1)⟩
  | cons c r =>
    have HI : Hid (isC 93 (s.drop p) = decide (c = 93)) := Lib.hid (by unfold isC; rw [hb])
    have q1 : ((c.toNat : Int) == 93) = decide (c = 93) := b8 c 93
    generalize decide (c = 93) = z at q1 HI
    go_region_with (refine HBL.out.mono ?_; rintro x w1 ⟨q, rfl, hpq, hq, he, hr1, hk1⟩; obtain ⟨hlt, hg, hdr, _⟩ := drop_cons_at (he.trans hb); have hidx := run_index_list Tryz.underlying9 s q hlt; rw [hg] at hidx; have c0 := hr1.c0; have c1 := hr1.c1; rw [show decide (q < s.length) = true from decide_eq_true hlt])
    all_goals
     go_wp2_with fail
     go_meet
     exact ⟨q, by rw [HI.out], hpq, hq, Lib.hid he, Lib.hid hr1, Lib.hid ((Kp.refl _ _ _).drew.trans hk1)⟩
 case rest =>
  obtain ⟨q, rfl, hpq, hq, HE, HR, HK⟩ := hcut
  by_cases hi : isC 93 (s.drop p) = true
  . rw [hi]
    have HO1 : Hid (∃ r, bl (s.drop p) = 93 :: r) := Lib.hid (by
     unfold isC at hi
     cases hb : bl (s.drop p) with
     | nil => rw [hb] at hi; cases hi
     | cons c r => rw [hb] at hi; simp at hi; subst hi; exact ⟨r, rfl⟩)
    clear hi
    have c1 := HR.out.c1
    have f1 := Blk.frozen HR.out 1
    go_wp2_with fail
    go_ret2
    obtain ⟨r, hb⟩ := HO1.out
    obtain ⟨hlt, _, hdr, _⟩ := drop_cons_at (HE.out.trans hb)
    have hO2 : O = .ok (plainH 5) .nil r := by rw [HO.out]; unfold listO opn; rw [hb]; simp
    rw [hO2]
    exact ⟨_, q + 1, fun _ => False, rfl, ⟨none, 0, none, 0, [], rfl, by simp [F.len], ⟨by simp [plainH], fun _ _ => ⟨rfl, rfl⟩⟩, RdS.none_, rfl, RdS.none_⟩, fun _ h => h.elim, by omega, hdr.symm, HR.out.to (q + 1) _ (by omega), HK.out.rdr _⟩
  . rw [Bool.not_eq_true] at hi
    rw [hi]
    have HO1 : Hid (O = items d (s.drop q)) := Lib.hid (by
     rw [HE.out, items_bl, HO.out]
     unfold listO opn
     unfold isC at hi
     cases hb : bl (s.drop p) with
     | nil => rfl
     | cons c r => rw [hb] at hi; simp at hi; simp only; rw [if_neg hi])
    clear hi HBL HE HO
    go_wp2_with fail
    go_loopg [6] (s.length + 1) (fun gk v wr => ∃ (q : Nat) (f : F), p ≤ q /\ q ≤ s.length /\ s.length - q < gk /\ f.len ≤ q /\ Hid (TL (encN true) wr w.heap.size (fun _ => False) 129 v f) /\ Hid (O = (items d (s.drop q)).consF f) /\ Hid (Rdr wr rb s q) /\ Hid (Kp w.heap.size (· = rb) w wr))
    case atStart => exact ⟨q, .nil, hpq, hq, by omega, by simp [F.len], Lib.hid (TL.nil _ _ _ _ _), Lib.hid (by rw [HO1.out, Out.consF_nil]), HR, HK⟩
    case round =>
     clear HR HK HO1
     obtain ⟨q1, f, hpq1, hq1, hgk, hfq, HL, HO, HR, HK⟩ := hrel
     have e1 : ((d + 1 : Nat) : Int) = (d : Int) + 1 := by omega
     have HC := Lib.hid (HN.out q1 (d + 1) wr hq1 (by have := HM.out; omega) (by omega) (HST.out.rdr HK.out HRB.out) HR.out)
     rw [e1] at HC
     have HI := Lib.hid (items_eq d (s.drop q1))
     clear e1
     cases hV : val (d + 1) (s.drop q1) with
     | err no r =>
      have HP : Hid (O = .err no r) := Lib.hid (by rw [HO.out, HI.out, hV]; rfl)
      rw [hV] at HC
      clear hV HI HO HR
      go_wp2_with fail
      refine HC.out.mono ?_
      rintro x w1 ⟨u, q2, a, rfl, hlen, hq2, hr2, hk2⟩
      have HR2 := Lib.hid hr2
      have HK2 := Lib.hid (HK.out.trans (hk2.less HK.out.size))
      have HLen := Lib.hid hlen
      clear hr2 hk2 hlen HC
      unfold faultV
      go_wp2
      go_ret2
      rw [HP.out]
      exact ⟨_, q2, a, rfl, HLen.out, hq2, HR2.out, HK2.out⟩
     | ok h k r =>
      rw [hV] at HC
      have hvl := val_len hV
      have HP : Hid (O = (match nx 93 r with
       | .err no q => Out.err no q
       | .fin q => .ok (plainH 5) (.cons h k .nil) q
       | .more q => (items d q).consL h k).consF f) := Lib.hid (by rw [HO.out, HI.out, hV]; rfl)
      clear hV HI HO HR
      go_wp2_with fail
      refine HC.out.mono ?_
      rintro x w1 ⟨u, q2, S, rfl, htv, hS, hq2, rfl, hr2, hk2⟩
      obtain ⟨T, y, rfl⟩ := htv.iface
      rw [List.length_drop, List.length_drop] at hvl
      have hq12 : q1 < q2 := by omega
      have hwr : w.heap.size ≤ wr.heap.size := HK.out.size
      have hw1 : wr.heap.size ≤ w1.heap.size := hk2.size
      have HR2 := Lib.hid hr2
      have HK2 := Lib.hid (HK.out.trans (hk2.less HK.out.size))
      have HL2 := Lib.hid (HL.out.kp hk2 hwr (Nat.le_refl _) (fun b h1 h2 e => by have := HW.out; omega) (fun b hb => hb.elim))
      have HS : Hid (∀ b, S b -> (w.heap.size ≤ b /\ b < (w1.alloc (.cells #[.iface T y] 129)).heap.size /\ u6.ownBlock ≠ some b) ∨ (False /\ b < w.heap.size)) := Lib.hid (fun b hb => .inl ⟨by have := (hS b hb).1; omega, by have := (hS b hb).2; simp; omega, fun e => by have := HL.out.own e; have := (hS b hb).1; omega⟩)
      have HTV : Hid (TR (encN true) (w1.alloc (.cells #[.iface T y] 129)) S (.cons h k .nil) [.iface T y]) := Lib.hid (htv.kept fun p hp => World.cell?_alloc_lt _ _ _ (hS _ hp).2).tr
      clear hr2 hk2 htv hS HC HL HK hvl
      go_wp2_with (at_builtin; refine wpList_push rfl 327 Tryz.underlying327 _ _ rfl true w.heap.size _ (fun _ => False) _ f rfl (HL2.out.alloc (by omega) _) _ 1 1 [.iface T y] rfl (Reads.one (cell_new1 _ _ _) (by simp)) S _ HTV.out rfl HS.out (by omega) (by simp; omega) ?_)
      intro v3 w3 hL3 hk3
      have hw3 : w.heap.size ≤ w3.heap.size := by have := hk3.size; simp at this; omega
      have HK3 := Lib.hid ((HK2.out.alloc (by omega) _).trans (hk3.mono (Nat.le_refl _) (fun _ _ h => h.elim)))
      have HR3 : Hid (Rdr w3 rb s q2) := Lib.hid (hk3.blk (Blk.alloc HR2.out _) HW.out id)
      have HL3 := Lib.hid hL3
      clear hL3 hk3 HR2 HK2 HL2 HS HTV
      cases hb : bl (s.drop q2) with
      | nil =>
       have HP1 : Hid (O = .err 2 []) := Lib.hid (by rw [HP.out]; unfold nx; rw [hb]; rfl)
       have HX := Lib.hid (next_short s hs q2 rb hq2 [44, 93] hb w3 HR3.out)
       unfold faultV at HX
       clear hb HP
       go_wp2_with fail
       refine HX.out.mono ?_
       rintro x w4 ⟨q3, rfl, hq23, hq3, hr4, hk4⟩
       have HR4 := Lib.hid hr4
       have HK4 := Lib.hid (HK3.out.trans (hk4.less hw3))
       clear hr4 hk4 HX
       go_wp2
       go_ret2
       rw [HP1.out]
       exact ⟨_, q3, s.length, rfl, by simp, hq3, HR4.out, HK4.out⟩
      | cons c r =>
       obtain ⟨hc1, _⟩ := drop_cons_at (s := bl (s.drop q2)) (q := 0) (by rw [List.drop_zero, hb])
       have hlen : ∃ a : Nat, a + r.length + 1 = s.length := by
         have := bl_len (s.drop q2)
         rw [hb, List.length_drop, List.length_cons] at this
         exact ⟨s.length - r.length - 1, by omega⟩
       obtain ⟨a, ha⟩ := hlen
       clear hc1
       by_cases h44 : c = 44
       . subst h44
         have HP1 : Hid (O = (items d r).consF (f.app (.cons h k .nil))) := Lib.hid (by rw [HP.out]; unfold nx; rw [hb]; simp only [if_true]; rw [Out.consF_snoc])
         have HX := Lib.hid (next_ok s hs q2 rb hq2 [44, 93] 44 r hb (by decide) w3 HR3.out)
         clear hb HP
         go_wp2_with fail
         refine HX.out.mono ?_
         rintro x w4 ⟨q3, rfl, hq23, hq3, hd3, _, hr4, hk4⟩
         have HR4 := Lib.hid hr4
         have HK4 := Lib.hid (HK3.out.trans (hk4.less hw3))
         have HL4 := Lib.hid (HL3.out.kp hk4 hw3 (Nat.le_refl _) (fun b h1 h2 e => by have := HW.out; omega) (fun b hb => hb.elim))
         have HD := Lib.hid hd3
         have e44 : ((UInt8.toNat 44 : Nat) : Int) = 44 := rfl
         rw [e44]
         clear hr4 hk4 HX hd3 e44
         go_wp2_with fail
         go_roundg (gk - 1)
         case measure => omega
         case rel => exact ⟨q3, f.app (.cons h k .nil), by omega, hq3, by omega, by rw [F.len_app]; simp [F.len]; omega, HL4, Lib.hid (by rw [HP1.out, HD.out]), HR4, HK4⟩
       . by_cases h93 : c = 93
         . subst h93
           have HP1 : Hid (O = .ok (plainH 5) (f.app (.cons h k .nil)) r) := Lib.hid (by rw [HP.out]; unfold nx; rw [hb]; simp [Out.consF])
           have HX := Lib.hid (next_ok s hs q2 rb hq2 [44, 93] 93 r hb (by decide) w3 HR3.out)
           clear hb HP h44
           go_wp2_with fail
           refine HX.out.mono ?_
           rintro x w4 ⟨q3, rfl, hq23, hq3, hd3, _, hr4, hk4⟩
           have HR4 := Lib.hid hr4
           have HK4 := Lib.hid (HK3.out.trans (hk4.less hw3))
           have HL4 := Lib.hid (HL3.out.kp hk4 hw3 (Nat.le_refl _) (fun b h1 h2 e => by have := HW.out; omega) (fun b hb => hb.elim))
           have HD := Lib.hid hd3
           have e93 : ((UInt8.toNat 93 : Nat) : Int) = 93 := rfl
           rw [e93]
           clear hr4 hk4 HX hd3 e93
           go_wp2
           go_ret2
           rw [HP1.out]
           obtain ⟨S5, hT5, hS5⟩ := HL4.out.node (by rw [F.len_app]; simp [F.len]; omega)
           exact ⟨_, q3, S5, rfl, hT5, hS5, hq3, HD.out.symm, HR4.out, HK4.out⟩
         . have HP1 : Hid (O = .err 4 (c :: r)) := Lib.hid (by rw [HP.out]; unfold nx; rw [hb]; simp only; rw [if_neg h44, if_neg h93]; rfl)
           have HX := Lib.hid (next_bad s hs q2 rb hq2 [44, 93] c r hb (idx_neg (by simp [h44, h93])) a ha w3 HR3.out)
           unfold faultV at HX
           clear hb HP h44 h93
           go_wp2_with fail
           refine HX.out.mono ?_
           rintro x w4 ⟨q3, rfl, hq23, hq3, hr4, hk4⟩
           have HR4 := Lib.hid hr4
           have HK4 := Lib.hid (HK3.out.trans (hk4.less hw3))
           clear hr4 hk4 HX
           go_wp2
           go_ret2
           rw [HP1.out]
           exact ⟨_, q3, a, rfl, by simp; omega, hq3, HR4.out, HK4.out⟩
end Js
end Go.Proofs.YtjohdaobhonioaaGreatDoor
