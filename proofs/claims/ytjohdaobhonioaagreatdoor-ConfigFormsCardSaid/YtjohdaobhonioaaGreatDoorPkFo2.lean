/-
  Parts of the proof: JsM, Kit.
-/
import Derived.Test.YtjohdaobhonioaaGreatDoorPkFo1
import Derived.Test.YtjohdaobhonioaaGreatDoorPkFo0
import Derived.WalkKit
import Derived.WalkLawsBesides
import Derived.Lib.Hide
import Derived.Outline
import Derived.Laws.Rows
import Derived.Laws.ResultCell
import Derived.Deep.MidRow
namespace Go.Proofs.YtjohdaobhonioaaGreatDoor
open Go.RowKit
namespace Js
structure Kp (B : Nat) (X : Nat -> Prop) (w w' : World) : Prop where
 os : w'.os = w.os
 tape : w'.tape = w.tape
 output : w'.output = w.output
 size : w.heap.size ≤ w'.heap.size
 block : ∀ k, k < B -> ¬ X k -> w'.heap[k]? = w.heap[k]?
section
variable {B B' : Nat} {X Y : Nat -> Prop} {w w' a : World}
theorem Kp.refl (B : Nat) (X : Nat -> Prop) (w : World) : Kp B X w w := ⟨rfl, rfl, rfl, Nat.le_refl _, fun _ _ _ => rfl⟩
theorem Kp.trans (h : Kp B X a w) (k : Kp B X w w') : Kp B X a w' :=
 ⟨k.os.trans h.os, k.tape.trans h.tape, k.output.trans h.output, Nat.le_trans h.size k.size, fun i hi hx => (k.block i hi hx).trans (h.block i hi hx)⟩
theorem Kp.mono (h : Kp B X w w') (hB : B' ≤ B) (hX : ∀ k, k < B' -> X k -> Y k) : Kp B' Y w w' :=
 ⟨h.os, h.tape, h.output, h.size, fun k hk hy => h.block k (Nat.lt_of_lt_of_le hk hB) (fun hx => hy (hX k hk hx))⟩
theorem Kp.less (h : Kp B X w w') (hB : B' ≤ B) : Kp B' X w w' := h.mono hB fun _ _ h => h
theorem Kp.alloc (h : Kp B X a w) (hB : B ≤ w.heap.size) (o : Obj) : Kp B X a (w.alloc o) :=
 h.trans ⟨rfl, rfl, rfl, by simp, fun k hk _ => Below.heap_alloc w o k (by omega)⟩
theorem Kp.setCell (h : Kp B X a w) {p : Addr} (hp : B ≤ p.block ∨ X p.block) (u : Value) : Kp B X a (w.setCell p u) :=
 h.trans ⟨rfl, rfl, rfl, by simp, fun k hk hx => Below.heap_setCell w p u k (fun e => by subst e; rcases hp with hp | hp; omega; exact hx hp)⟩
theorem Kp.drewN (h : Kp B X a w) (n : Nat) : Kp B X a (w.drewN n) := ⟨h.os, h.tape, h.output, h.size, h.block⟩
theorem Kp.drew (h : Kp B X a w) : Kp B X a w.drew := ⟨h.os, h.tape, h.output, h.size, h.block⟩
theorem Kp.below (h : Kp B (fun _ => False) w w') : Below B w w' := ⟨h.os, h.tape, h.output, h.size, fun k hk => h.block k hk id⟩
theorem Kp.of_below (h : Below B w w') : Kp B X w w' := ⟨h.os, h.tape, h.output, h.size, fun k hk _ => h.block k hk⟩
theorem Kp.step (h : Kp B X a w) (hb : Below w.heap.size w w') (hB : B ≤ w.heap.size) : Kp B X a w' := h.trans (Kp.of_below (hb.mono hB))
theorem Kp.grown {row : Option Nat} (h : Kp B X a w) (hg : w.grownBy w' row) (hB : B ≤ w.heap.size) (hr : ∀ k, row = some k -> B ≤ k ∨ X k) : Kp B X a w' :=
 h.trans ⟨hg.os, hg.tape, hg.output, hg.size, fun k hk hx => hg.block k (by omega) (fun e => by rcases hr k e.symm with h1 | h1; omega; exact hx h1)⟩
theorem Kp.cell (h : Kp B X w w') {p : Addr} (hp : p.block < B) (hx : ¬ X p.block) : w'.cell? p = w.cell? p := World.cell?_of_block (h.block _ hp hx)
theorem Kp.blk {g : Nat} {t : TypeId} {cs : Array Value} (h : Kp B X w w') (hb : Blk w g t cs) (hg : g < B) (hx : ¬ X g) : Blk w' g t cs := (h.block g hg hx).trans hb
theorem Kp.reads {size n : Nat} {A : Option Addr} {xs : List Value} (h : Kp B (fun _ => False) w w') (hr : Reads w B size A n xs) : Reads w' B size A n xs := hr.below h.below
end
def RdS (w : World) (S : Nat -> Prop) (size : Nat) (A : Option Addr) (n : Nat) (xs : List Value) : Prop :=
 xs.length = n * size /\ (0 < n -> ∃ ad, A = some ad /\ S ad.block /\ ∀ j u, xs[j]? = some u -> w.cell? (ad.add j) = some u)
section
variable {w w' : World} {S S' : Nat -> Prop} {size n : Nat} {A : Option Addr} {xs : List Value}
theorem RdS.none_ : RdS w S size A 0 [] := ⟨by simp, fun h => absurd h (by omega)⟩
theorem RdS.kept (h : RdS w S size A n xs) (hk : ∀ p : Addr, S p.block -> w'.cell? p = w.cell? p) : RdS w' S size A n xs :=
 ⟨h.1, fun hn => by
  obtain ⟨ad, e, hb, hc⟩ := h.2 hn
  exact ⟨ad, e, hb, fun j u hu => (hk _ (by rw [block_of_add]; exact hb)).trans (hc j u hu)⟩⟩
theorem RdS.more (h : RdS w S size A n xs) (hS : ∀ b, S b -> S' b) : RdS w S' size A n xs :=
 ⟨h.1, fun hn => by
  obtain ⟨ad, e, hb, hc⟩ := h.2 hn
  exact ⟨ad, e, hS _ hb, hc⟩⟩
theorem RdS.reads {B : Nat} (h : RdS w S size A n xs) (hS : ∀ b, S b -> b < B) : Reads w B size A n xs :=
 ⟨h.1, fun hn => by
  obtain ⟨ad, e, hb, hc⟩ := h.2 hn
  exact ⟨ad, e, hS _ hb, hc⟩⟩
theorem RdS.of_own {base : Nat} {e : TypeId} {v : Value} (h : w.ownsRow base e size v n xs) : ∃ A c, v = .slice A n c /\ RdS w (fun b => v.ownBlock = some b) size A n xs := by
 have h0 := h
 rcases h.2 with ⟨rfl, rfl⟩ | ⟨g, cap, cur, rfl, _⟩
 . exact ⟨none, 0, rfl, h0.1, fun hn => absurd hn (by omega)⟩
 . exact ⟨_, cap, rfl, h0.1, fun _ => ⟨_, rfl, rfl, h0.cells (g := g) rfl⟩⟩
end
structure Enc where
 sz : Nat
 nilk : Bool
 V : Hd -> Value -> Value -> List Value
 len : ∀ h i k, (V h i k).length = sz
 one : ∀ h A n c A' n' c', ∀ x ∈ V h (.slice A n c) (.slice A' n' c'), x.oneCell' = true
def TR (E : Enc) (w : World) (S : Nat -> Prop) : F -> List Value -> Prop
 | .nil, vs => vs = []
 | .cons h k r, vs => ∃ A c A' c' us rest, vs = E.V h (.slice A k.len c) (.slice A' h.keys.length c') ++ rest /\ k.len ≤ 4398046511104 /\ (h.keys.length ≤ 4398046511104 /\ (E.nilk = true -> h.keys = [] -> A' = none /\ c' = 0)) /\ RdS w S E.sz A k.len us /\ TR E w S k us /\ RdS w S 1 A' h.keys.length (tx h.keys) /\ TR E w S r rest
def F.sz : F -> Nat
 | .nil => 0
 | .cons _ k r => k.sz + r.sz + 1
theorem F.len_sz (f : F) : f.len ≤ f.sz := by induction f <;> simp_all [F.len, F.sz] <;> omega
section
variable {E : Enc} {w w' : World} {S S' : Nat -> Prop} {f g : F} {vs vs' : List Value}
theorem TR.len (h : TR E w S f vs) : vs.length = f.len * E.sz := by
 induction f generalizing vs with
 | nil => simp [TR] at h; subst h; simp [F.len]
 | cons h0 k r _ ih =>
  obtain ⟨A, c, A', c', us, rest, rfl, _, _, _, _, _, hr⟩ := h
  rw [List.length_append, E.len, ih hr, F.len, Nat.succ_mul]; omega
theorem TR.one (h : TR E w S f vs) : ∀ x ∈ vs, x.oneCell' = true := by
 induction f generalizing vs with
 | nil => simp [TR] at h; subst h; simp
 | cons h0 k r _ ih =>
  obtain ⟨A, c, A', c', us, rest, rfl, _, _, _, _, _, hr⟩ := h
  intro x hx
  rcases List.mem_append.1 hx with h1 | h1
  . exact E.one _ _ _ _ _ _ _ x h1
  . exact ih hr x h1
theorem TR.kept (h : TR E w S f vs) (hk : ∀ p : Addr, S p.block -> w'.cell? p = w.cell? p) : TR E w' S f vs := by
 induction f generalizing vs with
 | nil => exact h
 | cons h0 k r ih1 ih2 =>
  obtain ⟨A, c, A', c', us, rest, e, b1, b2, h1, h2, h3, hr⟩ := h
  exact ⟨A, c, A', c', us, rest, e, b1, b2, h1.kept hk, ih1 h2, h3.kept hk, ih2 hr⟩
theorem TR.more (h : TR E w S f vs) (hS : ∀ b, S b -> S' b) : TR E w S' f vs := by
 induction f generalizing vs with
 | nil => exact h
 | cons h0 k r ih1 ih2 =>
  obtain ⟨A, c, A', c', us, rest, e, b1, b2, h1, h2, h3, hr⟩ := h
  exact ⟨A, c, A', c', us, rest, e, b1, b2, h1.more hS, ih1 h2, h3.more hS, ih2 hr⟩
theorem TR.app (h : TR E w S f vs) (h' : TR E w S g vs') : TR E w S (f.app g) (vs ++ vs') := by
 induction f generalizing vs with
 | nil => simp [TR] at h; subst h; simpa [F.app] using h'
 | cons h0 k r _ ih =>
  obtain ⟨A, c, A', c', us, rest, rfl, b1, b2, h1, h2, h3, hr⟩ := h
  exact ⟨A, c, A', c', us, rest ++ vs', by rw [List.append_assoc], b1, b2, h1, h2, h3, ih hr⟩
def TV (E : Enc) (w : World) (S : Nat -> Prop) (h : Hd) (k : F) (cs : List Value) : Prop :=
 ∃ A c A' c' us, cs = E.V h (.slice A k.len c) (.slice A' h.keys.length c') /\ k.len ≤ 4398046511104 /\ (h.keys.length ≤ 4398046511104 /\ (E.nilk = true -> h.keys = [] -> A' = none /\ c' = 0)) /\ RdS w S E.sz A k.len us /\ TR E w S k us /\ RdS w S 1 A' h.keys.length (tx h.keys)
theorem TV.kept {h : Hd} {k : F} {cs : List Value} (hv : TV E w S h k cs) (hk : ∀ p : Addr, S p.block -> w'.cell? p = w.cell? p) : TV E w' S h k cs := by
 obtain ⟨A, c, A', c', us, e, b1, b2, h1, h2, h3⟩ := hv
 exact ⟨A, c, A', c', us, e, b1, b2, h1.kept hk, h2.kept hk, h3.kept hk⟩
theorem TV.more {h : Hd} {k : F} {cs : List Value} (hv : TV E w S h k cs) (hS : ∀ b, S b -> S' b) : TV E w S' h k cs := by
 obtain ⟨A, c, A', c', us, e, b1, b2, h1, h2, h3⟩ := hv
 exact ⟨A, c, A', c', us, e, b1, b2, h1.more hS, h2.more hS, h3.more hS⟩
theorem TV.tr {h : Hd} {k : F} {cs : List Value} (hv : TV E w S h k cs) : TR E w S (.cons h k .nil) cs := by
 obtain ⟨A, c, A', c', us, e, b1, b2, h1, h2, h3⟩ := hv
 exact ⟨A, c, A', c', us, [], by rw [e, List.append_nil], b1, b2, h1, h2, h3, rfl⟩
theorem TR.tv {h : Hd} {k : F} {cs : List Value} (hv : TR E w S (.cons h k .nil) cs) : TV E w S h k cs := by
 obtain ⟨A, c, A', c', us, rest, e, b1, b2, h1, h2, h3, h4⟩ := hv
 have : rest = [] := h4
 subst this
 exact ⟨A, c, A', c', us, by rw [e, List.append_nil], b1, b2, h1, h2, h3⟩
theorem TR.at_ (h : TR E w S f vs) {i : Nat} (hi : i < f.len) : ∃ h0 k, (toL f)[i]? = some (h0, k) /\ k.sz < f.sz /\ TV E w S h0 k ((vs.drop (i * E.sz)).take E.sz) := by
 induction f generalizing vs i with
 | nil => simp [F.len] at hi
 | cons h0 k r _ ih =>
  obtain ⟨A, c, A', c', us, rest, rfl, b1, b2, h1, h2, h3, hr⟩ := h
  cases i with
  | zero =>
   refine ⟨h0, k, rfl, by simp [F.sz]; omega, A, c, A', c', us, ?_, b1, b2, h1, h2, h3⟩
   rw [Nat.zero_mul, List.drop_zero, <- E.len h0 (.slice A k.len c) (.slice A' h0.keys.length c'), List.take_left]
  | succ i =>
   obtain ⟨h4, k4, e, hs, hv⟩ := ih hr (by simp [F.len] at hi; omega : i < r.len)
   refine ⟨h4, k4, by simpa [toL] using e, by simp [F.sz]; omega, ?_⟩
   have : (i + 1) * E.sz = (E.V h0 (.slice A k.len c) (.slice A' h0.keys.length c')).length + i * E.sz := by rw [E.len, Nat.succ_mul]; omega
   rw [this, List.drop_append, List.drop_eq_nil_of_le (by omega), List.nil_append, Nat.add_sub_cancel_left]
   exact hv
end
def F.take : Nat -> F -> F
 | 0, _ => .nil
 | _ + 1, .nil => .nil
 | n + 1, .cons h k r => .cons h k (r.take n)
theorem F.take_succ {f : F} {i : Nat} {h : Hd} {k : F} (e : (toL f)[i]? = some (h, k)) : f.take (i + 1) = (f.take i).app (.cons h k .nil) := by
 induction f generalizing i with
 | nil => simp [toL] at e
 | cons h0 k0 r _ ih =>
  cases i with
  | zero => simp [toL] at e; obtain ⟨rfl, rfl⟩ := e; simp [F.take, F.app]
  | succ i => simp only [toL, List.getElem?_cons_succ] at e; rw [F.take, ih e, F.take, F.app]
theorem F.take_len {f : F} {i : Nat} (h : i ≤ f.len) : (f.take i).len = i := by
 induction f generalizing i with
 | nil => simp [F.len] at h; subst h; rfl
 | cons h0 k0 r _ ih =>
  cases i with
  | zero => rfl
  | succ i => simp [F.len] at h; simp [F.take, F.len, ih h]
theorem F.take_all (f : F) : f.take f.len = f := by
 induction f with
 | nil => rfl
 | cons h0 k0 r _ ih => rw [F.len, F.take, ih]
def TL (E : Enc) (w : World) (B : Nat) (S0 : Nat -> Prop) (e : TypeId) (v : Value) (f : F) : Prop :=
 ∃ (S : Nat -> Prop) (vs : List Value), w.ownsRow B e E.sz v f.len vs /\ TR E w S f vs /\ ∀ b, S b -> (B ≤ b /\ b < w.heap.size /\ v.ownBlock ≠ some b) ∨ (S0 b /\ b < B)
section
variable {E : Enc} {w w' : World} {B : Nat} {S0 S : Nat -> Prop} {e : TypeId} {v v' : Value} {f f' : F}
theorem TL.nil (E : Enc) (w : World) (B : Nat) (S0 : Nat -> Prop) (e : TypeId) : TL E w B S0 e (.slice none 0 0) .nil :=
 ⟨fun _ => False, [], World.ownsRow_nil _ _ _ _, rfl, fun _ h => h.elim⟩
theorem own_lt {base size n : Nat} {xs : List Value} (h : w.ownsRow base e size v n xs) {b : Nat} (hb : v.ownBlock = some b) : base ≤ b /\ b < w.heap.size := h.lt b hb
theorem own_at {base size n : Nat} {xs : List Value} (h : w.ownsRow base e size v n xs) (hk : ∀ b, v.ownBlock = some b -> w'.heap[b]? = w.heap[b]?) : w'.ownsRow base e size v n xs := by
 refine ⟨h.1, ?_⟩
 rcases h.2 with hn | ⟨g, cap, cur, rfl, hB, hgg, rest⟩
 . exact .inl hn
 . exact .inr ⟨g, cap, cur, rfl, hB, (hk g rfl).trans hgg, rest⟩
theorem TL.kept (h : TL E w B S0 e v f) (hk : ∀ b, B ≤ b -> b < w.heap.size -> w'.heap[b]? = w.heap[b]?) (h0 : ∀ b, S0 b -> b < B -> w'.heap[b]? = w.heap[b]?) (hs : w.heap.size ≤ w'.heap.size) : TL E w' B S0 e v f := by
 obtain ⟨S, vs, ho, hp, hS⟩ := h
 refine ⟨S, vs, own_at ho fun b hb => ?_, hp.kept fun p hp => ?_, fun b hb => ?_⟩
 . have := own_lt ho hb; exact hk b this.1 this.2
 . rcases hS _ hp with ⟨h1, h2, _⟩ | ⟨h1, h2⟩
   . exact World.cell?_of_block (hk _ h1 h2)
   . exact World.cell?_of_block (h0 _ h1 h2)
 . rcases hS b hb with ⟨h1, h2, h3⟩ | h1
   . exact .inl ⟨h1, by omega, h3⟩
   . exact .inr h1
theorem TL.setCell (h : TL E w B S0 e v f) {p : Addr} (hp : p.block < B) (h0 : ¬ S0 p.block) (u : Value) : TL E (w.setCell p u) B S0 e v f :=
 h.kept (fun b hb _ => Below.heap_setCell w p u b (by omega)) (fun b hb _ => Below.heap_setCell w p u b (fun e => h0 (e ▸ hb))) (by simp)
theorem TL.alloc (h : TL E w B S0 e v f) (hB : B ≤ w.heap.size) (o : Obj) : TL E (w.alloc o) B S0 e v f :=
 h.kept (fun b _ hb => Below.heap_alloc w o b hb) (fun b _ hb => Below.heap_alloc w o b (by omega)) (by simp)
theorem TL.drewN (h : TL E w B S0 e v f) (k : Nat) : TL E (w.drewN k) B S0 e v f := h.kept (fun _ _ _ => rfl) (fun _ _ _ => rfl) (Nat.le_refl _)
theorem TL.drew (h : TL E w B S0 e v f) : TL E w.drew B S0 e v f := h.kept (fun _ _ _ => rfl) (fun _ _ _ => rfl) (Nat.le_refl _)
theorem TL.form (h : TL E w B S0 e v f) : ∃ A c, v = .slice A f.len c := by
 obtain ⟨S, vs, ho, _⟩ := h
 obtain ⟨A, c, h, _⟩ := own_readsN ho
 exact ⟨A, c, h⟩
theorem TL.own (h : TL E w B S0 e v f) {b : Nat} (hb : v.ownBlock = some b) : B ≤ b /\ b < w.heap.size := by
 obtain ⟨S, vs, ho, _⟩ := h
 exact own_lt ho hb
theorem TL.kp {X : Nat -> Prop} {C : Nat} (h : TL E w B S0 e v f) (hk : Kp C X w w') (hB : B ≤ w.heap.size) (hC : w.heap.size ≤ C) (hX : ∀ b, B ≤ b -> b < w.heap.size -> ¬ X b) (h0 : ∀ b, S0 b -> b < B -> ¬ X b) : TL E w' B S0 e v f :=
 h.kept (fun b h1 h2 => hk.block b (by omega) (hX b h1 h2)) (fun b h1 h2 => hk.block b (by omega) (h0 b h1 h2)) hk.size
theorem TL.push {news : List Value} {S2 : Nat -> Prop} {f2 : F} {xs : List Value} (hp : TR E w S f xs) (hS : ∀ b, S b -> (B ≤ b /\ b < w.heap.size /\ v.ownBlock ≠ some b) ∨ (S0 b /\ b < B))
   (hp2 : TR E w S2 f2 news) (hS2 : ∀ b, S2 b -> (B ≤ b /\ b < w.heap.size /\ v.ownBlock ≠ some b) ∨ (S0 b /\ b < B)) (hB : B ≤ w.heap.size) (hv : ∀ b, v.ownBlock = some b -> B ≤ b)
   (ho' : w'.ownsRow B e E.sz v' (f.len + f2.len) (xs ++ news)) (hg : w.grownBy w' v.ownBlock) (hl : v'.ownBlock = v.ownBlock ∨ v'.ownBlock = some w.heap.size) : TL E w' B S0 e v' (f.app f2) := by
 have hU : ∀ b, (S b ∨ S2 b) -> (B ≤ b /\ b < w.heap.size /\ v.ownBlock ≠ some b) ∨ (S0 b /\ b < B) := fun b hb => hb.elim (hS b) (hS2 b)
 refine ⟨fun b => S b ∨ S2 b, xs ++ news, by rw [F.len_app]; exact ho', ((hp.more fun b h => .inl h).app (hp2.more fun b h => .inr h)).kept fun p hp => ?_, fun b hb => ?_⟩
 . rcases hU _ hp with ⟨h1, h2, h3⟩ | ⟨h1, h2⟩
   . exact World.cell?_of_block (hg.block _ h2 (fun e => h3 e.symm))
   . exact World.cell?_of_block (hg.block _ (by omega) (fun e => by have := hv _ e.symm; omega))
 . rcases hU _ hb with ⟨h1, h2, h3⟩ | h1
   . refine .inl ⟨h1, by have := hg.size; omega, fun e => ?_⟩
     rcases hl with h | h
     . exact h3 (h.symm.trans e)
     . rw [h] at e; cases e; omega
   . exact .inr h1
end
def ob (v : Value) : List Nat := v.ownBlock.toList
def OT (E : Enc) (w : World) (B : Nat) (eI eK : TypeId) : F -> List Value -> List Nat -> Prop
 | .nil, vs, bs => vs = [] /\ bs = []
 | .cons h k r, vs, bs => ∃ iv kv us rest b1 b2, vs = E.V h iv kv ++ rest /\ k.len ≤ 4398046511104 /\ h.keys.length ≤ 4398046511104 /\ w.ownsRow B eI E.sz iv k.len us /\ OT E w B eI eK k us b1 /\
  w.ownsRow B eK 1 kv h.keys.length (tx h.keys) /\ OT E w B eI eK r rest b2 /\ bs = ob iv ++ (b1 ++ (ob kv ++ b2))
section
variable {E : Enc} {w w' : World} {B : Nat} {eI eK : TypeId} {f g : F} {vs vs' : List Value} {bs bs' : List Nat}
theorem ob_lt {base size n : Nat} {e : TypeId} {v : Value} {xs : List Value} (h : w.ownsRow base e size v n xs) {b : Nat} (hb : b ∈ ob v) : base ≤ b /\ b < w.heap.size := own_lt h (by simpa [ob] using hb)
theorem OT.lt (h : OT E w B eI eK f vs bs) : ∀ b ∈ bs, B ≤ b /\ b < w.heap.size := by
 induction f generalizing vs bs with
 | nil => obtain ⟨_, rfl⟩ := h; simp
 | cons h0 k r ih1 ih2 =>
  obtain ⟨iv, kv, us, rest, b1, b2, _, _, _, h1, h2, h3, h4, rfl⟩ := h
  intro b hb
  rcases List.mem_append.1 hb with hb | hb
  . exact ob_lt h1 hb
  rcases List.mem_append.1 hb with hb | hb
  . exact ih1 h2 b hb
  rcases List.mem_append.1 hb with hb | hb
  . exact ob_lt h3 hb
  . exact ih2 h4 b hb
theorem OT.tr (hE : E.nilk = false) (h : OT E w B eI eK f vs bs) : TR E w (· ∈ bs) f vs := by
 induction f generalizing vs bs with
 | nil => exact h.1
 | cons h0 k r ih1 ih2 =>
  obtain ⟨iv, kv, us, rest, b1, b2, rfl, l1, l2, h1, h2, h3, h4, rfl⟩ := h
  obtain ⟨A, c, rfl, r1⟩ := RdS.of_own h1
  obtain ⟨A', c', rfl, r3⟩ := RdS.of_own h3
  exact ⟨A, c, A', c', us, rest, rfl, l1, ⟨l2, fun h => by rw [hE] at h; cases h⟩, r1.more (fun b hb => List.mem_append_left _ (by simp [ob, hb])), (ih1 h2).more (fun b hb => List.mem_append_right _ (List.mem_append_left _ hb)),
   r3.more (fun b hb => List.mem_append_right _ (List.mem_append_right _ (List.mem_append_left _ (by simp [ob, hb])))), (ih2 h4).more (fun b hb => List.mem_append_right _ (List.mem_append_right _ (List.mem_append_right _ hb)))⟩
theorem OT.kept (h : OT E w B eI eK f vs bs) (hk : ∀ b ∈ bs, w'.heap[b]? = w.heap[b]?) : OT E w' B eI eK f vs bs := by
 induction f generalizing vs bs with
 | nil => exact h
 | cons h0 k r ih1 ih2 =>
  obtain ⟨iv, kv, us, rest, b1, b2, e, l1, l2, h1, h2, h3, h4, rfl⟩ := h
  exact ⟨iv, kv, us, rest, b1, b2, e, l1, l2, own_at h1 fun b hb => hk b (List.mem_append_left _ (by simp [ob, hb])), ih1 h2 fun b hb => hk b (List.mem_append_right _ (List.mem_append_left _ hb)),
   own_at h3 fun b hb => hk b (List.mem_append_right _ (List.mem_append_right _ (List.mem_append_left _ (by simp [ob, hb])))), ih2 h4 fun b hb => hk b (List.mem_append_right _ (List.mem_append_right _ (List.mem_append_right _ hb))), rfl⟩
theorem OT.app (h : OT E w B eI eK f vs bs) (h' : OT E w B eI eK g vs' bs') : OT E w B eI eK (f.app g) (vs ++ vs') (bs ++ bs') := by
 induction f generalizing vs bs with
 | nil => obtain ⟨rfl, rfl⟩ := h; simpa [F.app] using h'
 | cons h0 k r ih1 ih2 =>
  obtain ⟨iv, kv, us, rest, b1, b2, rfl, l1, l2, h1, h2, h3, h4, rfl⟩ := h
  exact ⟨iv, kv, us, rest ++ vs', b1, b2 ++ bs', by rw [List.append_assoc], l1, l2, h1, h2, h3, ih2 h4, by simp only [List.append_assoc]⟩
theorem own_less {base base' size n : Nat} {e : TypeId} {v : Value} {xs : List Value} (h : w.ownsRow base e size v n xs) (hB : base' ≤ base) : w.ownsRow base' e size v n xs := by
 refine ⟨h.1, ?_⟩
 rcases h.2 with hn | ⟨g, cap, cur, rfl, hb, rest⟩
 . exact .inl hn
 . exact .inr ⟨g, cap, cur, rfl, by omega, rest⟩
theorem OT.less {B' : Nat} (h : OT E w B eI eK f vs bs) (hB : B' ≤ B) : OT E w B' eI eK f vs bs := by
 induction f generalizing vs bs with
 | nil => exact h
 | cons h0 k r ih1 ih2 =>
  obtain ⟨iv, kv, us, rest, b1, b2, e, l1, l2, h1, h2, h3, h4, rfl⟩ := h
  exact ⟨iv, kv, us, rest, b1, b2, e, l1, l2, own_less h1 hB, ih1 h2, own_less h3 hB, ih2 h4, rfl⟩
def OL (E : Enc) (w : World) (B : Nat) (eI eK : TypeId) (v : Value) (f : F) (bs : List Nat) : Prop :=
 ∃ vs, w.ownsRow B eI E.sz v f.len vs /\ OT E w B eI eK f vs bs /\ (ob v ++ bs).Nodup
theorem OL.nil (E : Enc) (w : World) (B : Nat) (eI eK : TypeId) : OL E w B eI eK (.slice none 0 0) .nil [] :=
 ⟨[], World.ownsRow_nil _ _ _ _, ⟨rfl, rfl⟩, by simp [ob, Value.ownBlock]⟩
theorem OL.kept {v : Value} (h : OL E w B eI eK v f bs) (hk : ∀ b, B ≤ b -> b < w.heap.size -> w'.heap[b]? = w.heap[b]?) : OL E w' B eI eK v f bs := by
 obtain ⟨vs, ho, ht, hn⟩ := h
 exact ⟨vs, own_at ho fun b hb => hk b (own_lt ho hb).1 (own_lt ho hb).2, ht.kept fun b hb => hk b (ht.lt b hb).1 (ht.lt b hb).2, hn⟩
theorem OL.below {v : Value} (h : OL E w B eI eK v f bs) (hb : Below w.heap.size w w') : OL E w' B eI eK v f bs := h.kept fun b _ h2 => hb.block b h2
theorem OL.less {B' : Nat} {v : Value} (h : OL E w B eI eK v f bs) (hB : B' ≤ B) : OL E w B' eI eK v f bs := by
 obtain ⟨vs, ho, ht, hn⟩ := h
 exact ⟨vs, own_less ho hB, ht.less hB, hn⟩
theorem OL.form {v : Value} (h : OL E w B eI eK v f bs) : ∃ A c, v = .slice A f.len c := by
 obtain ⟨vs, ho, _⟩ := h
 obtain ⟨A, c, h, _⟩ := own_readsN ho
 exact ⟨A, c, h⟩
end
end Js
end Go.Proofs.YtjohdaobhonioaaGreatDoor
namespace Go.Proofs.YtjohdaobhonioaaGreatDoor
open Go.RowKit
section
variable {P : Program}
theorem wpList_build_as {ops : Array Oper} {rest : List Oper} {o : Oper} {a : Act} {w : World} {Q : Exit -> Act -> World -> Prop} (hg : o.guard = none) (t : TypeId) (parts : Array (Nat × Operand)) (ho : o.op = .build t parts)
  (cs : Array Value) (hf : P.built t (parts.map fun (i, x) => (i, a.eval x)).toList = some cs)
  (h : wpList P ops Q rest (a.put o.dst (.agg cs)) w) : wpList P ops Q (o :: rest) a w :=
 wpList_build hg t parts ho (by rw [hf]; rfl) (by rw [hf]; exact h)
theorem results_row_tmp {fn : Func} {p u : Tmp} {ty : TypeId} (h : fn.results = #[.cell p ty, .tmp u]) (tmps : Array Value) (w : World) (g : Nat) (t : TypeId) (cs : Array Value) (fr : Nat × Nat) (d : TypeDesc)
  (hp : tmps.getD p undef = .pointer (some ⟨g, 0, none⟩)) (hg : w.heap[g]? = some (.cells cs t fr))
  (hu : P.underlying ty = some d) (hd : (match d with | .struct _ | .array _ _ => true | _ => false) = true) (hi : (P.info? ty).map (·.size) = some cs.size) :
  (results fn tmps).run P w = .ok (.tuple #[.agg cs, tmps.getD u undef]) w := by
 rw [results_cell_tmp h, hp]
 simp [asAddr, run_loadVar_row w g t ty cs fr d hg hu hd hi]
end
theorem setRow_below {B g : Nat} {a w : World} (h : Below B a w) (hg : B ≤ g) (cs : Array Value) : Below B a (w.setRow g cs) :=
 h.trans ⟨rfl, rfl, rfl, by simp, fun k hk => setRow_other w g k cs (by omega)⟩
theorem one_byteCells (l : List UInt8) : (Lib.byteCells l).toArray.all (·.oneCell') = true := by
 simp [Lib.byteCells, Value.oneCell']
theorem run_index_list {P : Program} {t : TypeId} (ht : P.underlying t = some .string) (T : List UInt8) (k : Nat) (h : k < T.length) (w : World) :
  (Instr.index t (.string ⟨T.toArray⟩) (.int .i64 k)).run P w = .ok (.int .u8 (T.getD k 0).toNat) w := by
 rw [run_index_string w t _ _ _ ht, dif_pos ⟨by omega, by simpa [ByteArray.size] using h⟩]
 have e : (⟨T.toArray⟩ : ByteArray)[k]'(by simpa [ByteArray.size] using h) = T.getD k 0 := by
  simp [ByteArray.getElem_eq_getElem_data, List.getD, List.getElem?_eq_getElem h]
 simp only [Int.toNat_natCast, e]
theorem run_slice_list {P : Program} {t : TypeId} (ht : P.underlying t = some .string) (T : List UInt8) (kl kh : IntKind) (i j : Int) (a b : Nat) (hi : i = a) (hj : j = b) (hab : a ≤ b) (hb : b ≤ T.length) (w : World) :
  (Instr.slice t (.string ⟨T.toArray⟩) (some (.int kl i)) (some (.int kh j)) none).run P w = .ok (.string ⟨((T.drop a).take (b - a)).toArray⟩) w := by
 subst hi hj
 rw [run_slice_string w t _ kl kh _ _ ht (by omega) (by omega) (by simp only [ByteArray.size, List.size_toArray]; omega)]
 congr 2
 apply ByteArray.ext
 simp [ByteArray.data_extract, List.extract]
end Go.Proofs.YtjohdaobhonioaaGreatDoor
