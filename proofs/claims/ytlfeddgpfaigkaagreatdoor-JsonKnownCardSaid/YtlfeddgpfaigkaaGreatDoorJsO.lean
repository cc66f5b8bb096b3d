/-
  How nodes lie in memory; what the walks of package json's reader (node, list, object) leave.
-/
import Derived.Test.YtlfeddgpfaigkaaGreatDoorJsS
namespace Go.Proofs.YtlfeddgpfaigkaaGreatDoor
open Go.RowKit
namespace Js
/-- A node. -/
def nodeV (h : Hd) (iv kv : Value) : Value :=
  if h.kind = 3 then .iface 153 (.int .i64 h.num) else if h.kind = 4 then .iface 154 (.string ⟨h.text.toArray⟩) else if h.kind = 5 then .iface 158 iv
  else if h.kind = 6 then .iface 161 (.agg #[kv, iv]) else .iface 152 (.int .i64 h.kind)
theorem nodeV_one (h : Hd) (iv kv : Value) : (nodeV h iv kv).oneCell' = true := by
  unfold nodeV
  repeat' split
  all_goals rfl
theorem nodeV_iface (h : Hd) (iv kv : Value) : ∃ T y, nodeV h iv kv = .iface T y := by
  unfold nodeV
  repeat' split
  all_goals exact ⟨_, _, rfl⟩
/-- Nodes as they lie: one cell each. -/
def encN (st : Bool) : Enc where
  sz := 1
  nilk := st
  V h i k := [nodeV h i k]
  len _ _ _ := rfl
  one h A n c A' n' c' x hx := by simp at hx; subst hx; exact nodeV_one _ _ _
theorem TV.iface {st : Bool} {w : World} {S : Nat → Prop} {h : Hd} {k : F} {u : Value} (hv : TV (encN st) w S h k [u]) : ∃ T y, u = .iface T y := by
  obtain ⟨A, c, A', c', us, e, _⟩ := hv
  simp only [encN, List.cons.injEq, and_true] at e
  subst e
  exact nodeV_iface _ _ _
theorem idx_neg {l : List UInt8} {c : UInt8} (h : c ∉ l) : Lib.indexByte l c < 0 := by
  induction l with
  | nil => show (-1 : Int) < 0; decide
  | cons b r ih =>
    have h1 : ¬ b = c := fun e => h (by simp [e])
    have h2 := ih (fun hc => h (List.mem_cons_of_mem _ hc))
    have h3 := Lib.indexByte_ge r c
    unfold Lib.indexByte
    rw [if_neg (by simpa using h1), if_pos (by rw [beq_iff_eq]; omega)]
    decide
theorem idx_pos {l : List UInt8} {c : UInt8} (h : c ∈ l) : 0 ≤ Lib.indexByte l c := by
  induction l with
  | nil => cases h
  | cons b r ih =>
    unfold Lib.indexByte
    by_cases h1 : b = c
    · rw [if_pos (by simpa using h1)]; decide
    · have h2 := ih (by rcases List.mem_cons.1 h with e | e; exact absurd e.symm h1; exact e)
      rw [if_neg (by simpa using h1), if_neg (by rw [beq_iff_eq]; omega)]
      omega
theorem infoNode : (Tryz.prog.info? 87).map (fun i => (i.zero, i.size, i.bytes)) = some (some .nilIface, 1, 16) := by kernel_rfl
theorem Reads.one {w : World} {g : Nat} {u : Value} (h : w.cell? ⟨g, 0, none⟩ = some u) (hg : g < w.heap.size) : Reads w w.heap.size 1 (some ⟨g, 0, none⟩) 1 [u] :=
  ⟨rfl, fun _ => ⟨_, rfl, hg, fun j x hx => by
    match j, hx with
    | 0, hx => simp at hx; subst hx; exact h⟩⟩
theorem cell_new1 (w : World) (u : Value) (t : TypeId) : (w.alloc (.cells #[u] t)).cell? ⟨w.heap.size, 0, none⟩ = some u := cell_of_row _ _ 0 _ t (0, 0) (heap_alloc_new w _)
/-- Nodes appended to a list of the call's own. -/
theorem wp_push {w : World} {o : Oper} {a : Act} {K : Act → World → Prop} {Q : Exit → Act → World → Prop} (T : TypeId) (hT : Tryz.prog.underlying T = some (.slice 87)) (s x : Operand)
    (ho : o.op = .call { callee := .builtin .append, args := #[s, x], argTypes := #[T, T] }) (st : Bool)
    (B B' : Nat) (S0 : Nat → Prop) (v : Value) (f : F) (hs : a.eval s = v) (hL : TL (encN st) w B S0 87 v f)
    (A : Option Addr) (m c : Nat) (news : List Value) (hx : a.eval x = .slice A m c) (hr : Reads w B' 1 A m news) (S2 : Nat → Prop) (g : F) (hp2 : TR (encN st) w S2 g news) (hm : g.len = m)
    (hS2 : ∀ b, S2 b → (B ≤ b ∧ b < w.heap.size ∧ v.ownBlock ≠ some b) ∨ (S0 b ∧ b < B)) (hn : f.len + m ≤ 8796093022207) (hB : B ≤ w.heap.size)
    (h : ∀ v' w', TL (encN st) w' B S0 87 v' (f.app g) → Kp B (fun _ => False) w w' → K (a.put o.dst v') w') : o.wp Tryz.prog a w K Q := by
  obtain ⟨i0, hi, hz0, hz1, hz2⟩ := info_parts infoNode
  obtain ⟨S, vs, hown, hp, hS⟩ := hL
  subst hm
  refine wp_append_any (P := Tryz.prog) w s x T ho B 87 i0 .nilIface 1 16 hT hi hz0 hz1 hz2 rfl (by decide) v f.len vs hs hown B' A g.len c news hx hr hp2.one (by unfold maxLen; omega) (by omega) hB fun v' w' h1 h2 h3 => h v' w' ?_ ?_
  · exact TL.push (E := encN st) hp hS hp2 hS2 hB (fun b hb => (hown.lt b hb).1) h1 h2 h3
  · exact (Kp.refl _ _ _).grown h2 hB (fun k hk => .inl (hown.lt k hk).1)
theorem wpList_push {w : World} {ops : Array Oper} {rest : List Oper} {o : Oper} {a : Act} {Q : Exit → Act → World → Prop} (hgd : o.guard = none) (T : TypeId) (hT : Tryz.prog.underlying T = some (.slice 87)) (s x : Operand)
    (ho : o.op = .call { callee := .builtin .append, args := #[s, x], argTypes := #[T, T] }) (st : Bool)
    (B B' : Nat) (S0 : Nat → Prop) (v : Value) (f : F) (hs : a.eval s = v) (hL : TL (encN st) w B S0 87 v f)
    (A : Option Addr) (m c : Nat) (news : List Value) (hx : a.eval x = .slice A m c) (hr : Reads w B' 1 A m news) (S2 : Nat → Prop) (g : F) (hp2 : TR (encN st) w S2 g news) (hm : g.len = m)
    (hS2 : ∀ b, S2 b → (B ≤ b ∧ b < w.heap.size ∧ v.ownBlock ≠ some b) ∨ (S0 b ∧ b < B)) (hn : f.len + m ≤ 8796093022207) (hB : B ≤ w.heap.size)
    (h : ∀ v' w', TL (encN st) w' B S0 87 v' (f.app g) → Kp B (fun _ => False) w w' → wpList Tryz.prog ops Q rest (a.put o.dst v') w') : wpList Tryz.prog ops Q (o :: rest) a w :=
  wpList_plain hgd fun _ hK => wp_push T hT s x ho st B B' S0 v f hs hL A m c news hx hr S2 g hp2 hm hS2 hn hB fun v' w' h2 h3 => hK _ _ (h v' w' h2 h3)

/-- What node, list and object leave. -/
def NdPost (rb : Nat) (s : List UInt8) (O : Out) (w : World) (x : Ending) (w' : World) : Prop :=
  match O with
  | .ok h k r => ∃ u q S, x = .returned (.tuple #[u, .nilIface]) ∧ TV (encN true) w' S h k [u] ∧ (∀ b, S b → w.heap.size ≤ b ∧ b < w'.heap.size) ∧ q ≤ s.length ∧ r = s.drop q ∧ Rdr w' rb s q ∧ Kp w.heap.size (· = rb) w w'
  | .err no r => ∃ u q a, x = .returned (.tuple #[u, faultV no (a : Nat)]) ∧ a + r.length = s.length ∧ q ≤ s.length ∧ Rdr w' rb s q ∧ Kp w.heap.size (· = rb) w w'
def NodeC (s : List UInt8) (rb m : Nat) : Prop := ∀ (p d : Nat) (w : World), p ≤ s.length → s.length - p ≤ m → d ≤ 33 → St w → Rdr w rb s p →
  Calls Tryz.prog 52 #[.pointer (some ⟨rb, 0, none⟩), .int .i64 d] w (NdPost rb s (val d (s.drop p)) w)
def ListC (s : List UInt8) (rb m : Nat) : Prop := ∀ (p d : Nat) (w : World), p ≤ s.length → s.length - p ≤ m → d ≤ 32 → St w → Rdr w rb s p →
  Calls Tryz.prog 113 #[.pointer (some ⟨rb, 0, none⟩), .int .i64 d] w (NdPost rb s (listO d (s.drop p)) w)
def ObjC (s : List UInt8) (rb m : Nat) : Prop := ∀ (p d : Nat) (w : World), p ≤ s.length → s.length - p ≤ m → d ≤ 32 → St w → Rdr w rb s p →
  Calls Tryz.prog 114 #[.pointer (some ⟨rb, 0, none⟩), .int .i64 d] w (NdPost rb s (objO d (s.drop p)) w)
theorem val_bl (d : Nat) (t : List UInt8) : val d (bl t) = val d t := by rw [val_eq, val_eq, bl_bl]
theorem items_bl (d : Nat) (t : List UInt8) : items d (bl t) = items d t := by rw [items_eq, items_eq, val_bl]
theorem key_bl (ks : List (List UInt8)) (t : List UInt8) : key ks (bl t) = key ks t := by unfold key; rw [bl_bl]
theorem mems_bl (ks : List (List UInt8)) (d : Nat) (t : List UInt8) : mems ks d (bl t) = mems ks d t := by rw [mems_eq, mems_eq, key_bl]
/-- What was read ahead of what is read. -/
def Out.consF (f : F) : Out → Out
  | .err no r => .err no r
  | .ok h g r => .ok h (f.app g) r
theorem Out.consF_nil (O : Out) : O.consF .nil = O := by cases O <;> rfl
theorem Out.consF_snoc (f : F) (h : Hd) (k : F) (O : Out) : (O.consL h k).consF f = O.consF (f.app (.cons h k .nil)) := by
  cases O with
  | err no r => rfl
  | ok h0 g r => simp [Out.consL, Out.consF, F.app_assoc, F.app]
/-- A list of one's own as a list's node. -/
theorem TL.node {w : World} {B : Nat} {v : Value} {f : F} (h : TL (encN true) w B (fun _ => False) 87 v f) (hf : f.len ≤ 4398046511104) :
    ∃ S : Nat → Prop, TV (encN true) w S (plainH 5) f [.iface 158 v] ∧ ∀ b, S b → B ≤ b ∧ b < w.heap.size := by
  obtain ⟨S, vs, ho, hp, hS⟩ := h
  obtain ⟨A, c, rfl, hr⟩ := RdS.of_own ho
  refine ⟨fun b => S b ∨ (Value.slice A f.len c).ownBlock = some b, ⟨A, c, none, 0, vs, rfl, hf, ⟨by simp [plainH], fun _ _ => ⟨rfl, rfl⟩⟩, hr.more fun b hb => .inr hb, hp.more fun b hb => .inl hb, RdS.none_⟩, fun b hb => ?_⟩
  rcases hb with hb | hb
  · rcases hS b hb with ⟨h1, h2, _⟩ | ⟨h1, _⟩
    · exact ⟨h1, h2⟩
    · exact h1.elim
  · exact own_lt ho hb
end Js
end Go.Proofs.YtlfeddgpfaigkaaGreatDoor
