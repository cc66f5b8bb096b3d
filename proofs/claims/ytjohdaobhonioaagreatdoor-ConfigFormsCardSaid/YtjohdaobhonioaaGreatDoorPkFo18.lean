/-
  Parts of the proof: JsWp.
-/
import Derived.Test.YtjohdaobhonioaaGreatDoorPkFo10
import Derived.Test.YtjohdaobhonioaaGreatDoorPkFo16
import Derived.Test.YtjohdaobhonioaaGreatDoorPkFo0
import Derived.Test.YtjohdaobhonioaaGreatDoorPkFo17
namespace Go.Proofs.YtjohdaobhonioaaGreatDoor
open Go.RowKit
namespace Js
theorem own_trim (d : Nat) (h : Hd) (k : F) : own d (trimH h) (trimK h k).len = own d h k.len := by
 obtain ⟨kd, num, text, keys⟩ := h
 unfold own trimH trimK
 simp only
 by_cases h3 : kd = 3
 . subst h3; simp
 by_cases h4 : kd = 4
 . subst h4; simp
 by_cases h6 : kd = 6
 . subst h6; simp [trim_len]
 . rw [if_neg h3, if_neg h4, if_neg h6]
   simp [plainH, h4, h6]
theorem wrongsF_trim : ∀ (f : F) (d : Nat), wrongsF d (trim f) = wrongsF d f := by
 intro f
 induction f with
 | nil => intro d; rfl
 | cons h k r ih1 ih2 =>
  intro d
  rw [trim_cons, wrongsF_cons, wrongsF_cons, ih2]
  have e : wrongs d (trimH h) (trimK h k) = wrongs d h k := by
   unfold wrongs
   simp only
   rw [own_trim, trimH_kind]
   by_cases h5 : 5 ≤ h.kind
   . rw [if_pos h5, if_pos h5]
     by_cases h56 : h.kind = 5 ∨ h.kind = 6
     . unfold trimK; rw [if_pos h56, ih1]
     . have h0 : own d h k.len ≠ 0 := by
        intro e
        have := own_zero e
        omega
       rw [if_pos h0, if_pos h0]
   . rw [if_neg h5, if_neg h5]
  rw [e]
theorem wrongs_trim (d : Nat) (h : Hd) (k : F) : wrongs d (trimH h) (trimK h k) = wrongs d h k := by
 have := wrongsF_trim (.cons h k .nil) d
 rw [trim_cons, wrongsF_cons, wrongsF_cons] at this
 by_cases e1 : wrongs d (trimH h) (trimK h k) = 0 <;> by_cases e2 : wrongs d h k = 0 <;> simp_all [trim, wrongsF]
theorem trimH_trim (h : Hd) : trimH (trimH h) = trimH h := by
 unfold trimH
 by_cases h3 : h.kind = 3
 . simp [h3]
 by_cases h4 : h.kind = 4
 . simp [h4]
 by_cases h6 : h.kind = 6
 . simp [h6]
 . simp [h3, h4, h6, plainH]
theorem trim_trim (f : F) : trim (trim f) = trim f := by
 induction f with
 | nil => rfl
 | cons h k r ih1 ih2 =>
  rw [trim_cons, trim_cons, trimH_trim, ih2]
  have : trimK (trimH h) (trimK h k) = trimK h k := by
   unfold trimK
   rw [trimH_kind]
   by_cases h5 : h.kind = 5 ∨ h.kind = 6
   . rw [if_pos h5, if_pos h5, ih1]
   . rw [if_neg h5, if_neg h5]
  rw [this]
theorem trimK_trim (h : Hd) (k : F) : trimK (trimH h) (trimK h k) = trimK h k := by
 unfold trimK
 rw [trimH_kind]
 by_cases h5 : h.kind = 5 ∨ h.kind = 6
 . rw [if_pos h5, if_pos h5, trim_trim]
 . rw [if_neg h5, if_neg h5]
def Okh (h : Hd) : Prop := Fit h /\ NumOk h
theorem Okh.trim {h : Hd} (hk : Okh h) : Okh (trimH h) := by
 obtain ⟨⟨h1, h2⟩, h3, h4⟩ := hk
 unfold trimH
 split
 . exact ⟨⟨by simp, by simp⟩, h3, h4⟩
 . split
   . exact ⟨⟨h1, by simp⟩, (by decide : (-9223372036854775808 : Int) ≤ 0), (by decide : (0 : Int) ≤ 9223372036854775807)⟩
   . split
     . exact ⟨⟨by simp, h2⟩, (by decide : (-9223372036854775808 : Int) ≤ 0), (by decide : (0 : Int) ≤ 9223372036854775807)⟩
     . exact ⟨⟨by simp [plainH], by simp [plainH]⟩, (by decide : (-9223372036854775808 : Int) ≤ 0), (by decide : (0 : Int) ≤ 9223372036854775807)⟩
theorem All_trim {f : F} (h : f.All Okh) : (trim f).All Okh := by
 induction f with
 | nil => trivial
 | cons h0 k r ih1 ih2 =>
  refine ⟨h.1.trim, ?_, ih2 h.2.2⟩
  show (if h0.kind = 5 ∨ h0.kind = 6 then trim k else F.nil).All Okh
  split
  . exact ih1 h.2.1
  . trivial
theorem All_trimK {h : Hd} {k : F} (hk : k.All Okh) : (trimK h k).All Okh := by
 unfold trimK
 split
 . exact All_trim hk
 . trivial
theorem forms_at : ∀ {f : F} {i : Nat} {h : Hd} {k : F}, (toL f)[i]? = some (h, k) -> (forms f)[i]? = some (form h k)
 | .nil, i, h, k, e => by simp [toL] at e
 | .cons h1 k1 r, 0, h, k, e => by simp [toL] at e; obtain ⟨rfl, rfl⟩ := e; rfl
 | .cons h1 k1 r, i + 1, h, k, e => by
  rw [forms, List.getElem?_cons_succ]
  exact forms_at (by simpa [toL] using e)
theorem wrongsF_at {d : Nat} {f : F} (hw : wrongsF d f = 0) {i : Nat} {h : Hd} {k : F} (e : (toL f)[i]? = some (h, k)) : wrongs d h k = 0 := by
 induction f generalizing i with
 | nil => simp [toL] at e
 | cons h1 k1 r _ ih =>
  obtain ⟨e1, e2⟩ := wrongsF_zero hw
  cases i with
  | zero => simp [toL] at e; obtain ⟨rfl, rfl⟩ := e; exact e1
  | succ i => exact ih e2 (by simpa [toL] using e)
theorem sumL_take (l : List (List UInt8)) (i : Nat) : sumL (l.take i) ≤ sumL l := by
 induction l generalizing i with
 | nil => simp
 | cons x r ih =>
  cases i with
  | zero => simp [sumL]
  | succ i => rw [List.take_succ_cons, sumL_cons, sumL_cons]; have := ih i; omega
theorem commas_take_le (l : List (List UInt8)) (i : Nat) : (commas (l.take i)).length ≤ (commas l).length := by
 rw [commas_len, commas_len, List.length_take]
 have := sumL_take l i
 omega
theorem node_kinds {st : Bool} {w : World} {S : Nat -> Prop} {h : Hd} {k : F} {u : Value} (hv : TV (encN st) w S h k [u]) (h1 : trimH h = h) (h2 : trimK h k = k) :
   (∃ z : Int, u = .iface 211 (.int .i64 z) /\ h = plainH z /\ k = .nil /\ z ≠ 3 /\ z ≠ 4 /\ z ≠ 5 /\ z ≠ 6) ∨ (∃ z : Int, u = .iface 219 (.int .i64 z) /\ h = ⟨3, z, [], []⟩ /\ k = .nil) ∨ (∃ t : List UInt8, u = .iface 212 (.string ⟨t.toArray⟩) /\ h = ⟨4, 0, t, []⟩ /\ k = .nil) ∨
   (∃ A c us, u = .iface 327 (.slice A k.len c) /\ h = plainH 5 /\ trim k = k /\ k.len ≤ 4398046511104 /\ RdS w S 1 A k.len us /\ TR (encN st) w S k us) ∨
   (∃ A c us A' c' ks, u = .iface 329 (.agg #[.slice A' ks.length c', .slice A k.len c]) /\ h = ⟨6, 0, [], ks⟩ /\ trim k = k /\ k.len ≤ 4398046511104 /\ ks.length ≤ 4398046511104 /\ RdS w S 1 A k.len us /\ TR (encN st) w S k us /\ RdS w S 1 A' ks.length (tx ks)) := by
 obtain ⟨A, c, A', c', us, e, l1, ⟨l2, l3⟩, r1, r2, r3⟩ := hv
 simp only [encN, List.cons.injEq, and_true] at e
 obtain ⟨kd, num, text, keys⟩ := h
 unfold trimK at h2
 unfold nodeV at e
 simp only at e h2
 by_cases k3 : kd = 3
 . subst k3
   have h1' : (⟨3, num, [], []⟩ : Hd) = ⟨3, num, text, keys⟩ := h1
   exact .inr (.inl ⟨num, by simpa using e, h1'.symm, h2.symm⟩)
 by_cases k4 : kd = 4
 . subst k4
   have h1' : (⟨4, 0, text, []⟩ : Hd) = ⟨4, num, text, keys⟩ := h1
   exact .inr (.inr (.inl ⟨text, by simpa using e, h1'.symm, h2.symm⟩))
 by_cases k5 : kd = 5
 . subst k5
   have h1' : plainH 5 = ⟨5, num, text, keys⟩ := h1
   exact .inr (.inr (.inr (.inl ⟨A, c, us, by simpa using e, h1'.symm, h2, l1, r1, r2⟩)))
 by_cases k6 : kd = 6
 . subst k6
   have h1' : (⟨6, 0, [], keys⟩ : Hd) = ⟨6, num, text, keys⟩ := h1
   exact .inr (.inr (.inr (.inr ⟨A, c, us, A', c', keys, by simpa using e, h1'.symm, h2, l1, l2, r1, r2, r3⟩)))
 . rw [if_neg k3, if_neg k4, if_neg k5, if_neg k6] at e
   have h1' : plainH kd = ⟨kd, num, text, keys⟩ := by
    have h3 := h1
    unfold trimH at h3
    rw [if_neg k3, if_neg k4, if_neg k6] at h3
    exact h3
   exact .inl ⟨kd, e, h1'.symm, by rw [if_neg (by omega)] at h2; exact h2.symm, k3, k4, k5, k6⟩
theorem bd_cells {b : Nat} {l : List UInt8} {w w' : World} (h : Bd b l w) (hk : ∀ (k : Nat) (cs : Array Value) (t : TypeId) (fz : Nat × Nat), w.heap[k]? = some (Obj.cells cs t fz) -> w'.heap[k]? = w.heap[k]?) : Bd b l w' := by
 have hc : ∀ p, Lib.BuilderAtF 196 5 b b p (Lib.byteCells l) w -> Lib.BuilderAtF 196 5 b b p (Lib.byteCells l) w' := by
   rintro p ⟨hB, v, hb, ⟨hl, ho⟩, hne⟩
   refine ⟨hB, v, (hk b _ _ _ hb).trans hb, ⟨hl, ?_⟩, hne⟩
   rcases ho with ho | ⟨g, cap, cur, fz, rfl, hg, hgg, r⟩
   . exact .inl ho
   . exact .inr ⟨g, cap, cur, fz, rfl, hg, (hk g _ _ _ hgg).trans hgg, r⟩
 rcases h with h | h
 . exact .inl (hc _ h)
 . exact .inr (hc _ h)
section
variable {b : Nat} {w w1 w2 : World}
theorem others_step {e : TypeId} {p : Option Nat} {a : World} (h : Lib.OthersKept e p a w1) (hk : ∀ k, k < a.heap.size -> w2.heap[k]? = w1.heap[k]?) : Lib.OthersKept e p a w2 :=
 fun k o hko hb ho => (hk k (Array.getElem?_eq_some_iff.1 hko).1).trans (h k o hko hb ho)
theorem keep_step (h : KeepB b w w1) (hb : Below w1.heap.size w1 w2) (hs : w.heap.size ≤ w1.heap.size) (hbs : b ≤ w1.heap.size) : KeepB b w w2 :=
 ⟨h.below.trans (hb.mono hbs), others_step h.others fun k hk => hb.block k (by omega)⟩
theorem keep_size (h : KeepB b w w1) : w.heap.size ≤ w1.heap.size := h.below.size
theorem keep_alloc (h : KeepB b w w1) (hbs : b ≤ w1.heap.size) (o : Obj) : KeepB b w (w1.alloc o) := keep_step h ((Below.refl _ _).alloc (Nat.le_refl _) _) (keep_size h) hbs
theorem keep_grown {g : Nat} (h : KeepB b w w1) (hg : w1.grownBy w2 (some g)) (hs : w.heap.size ≤ g) (hbs : b ≤ g) (hb1 : b ≤ w1.heap.size) : KeepB b w w2 :=
 ⟨Below.grown h.below hg hb1 (fun k hk => by injection hk with hk; omega), others_step h.others fun k hk => hg.block k (by have := keep_size h; omega) (fun e => by injection e with e; omega)⟩
theorem blk_keep {g : Nat} {t : TypeId} {cs : Array Value} (h : Blk w g t cs) (hk : KeepB b w w1) (ht : t ≠ 5) (hg : g ≠ b) : Blk w1 g t cs :=
 hk.others g _ h (fun e => hg (by injection e)) (fun c fz e => by injection e with _ e2; exact ht e2)
theorem own_keep {base size n : Nat} {e : TypeId} {v : Value} {xs : List Value} (h : w.ownsRow base e size v n xs) (hk : KeepB b w w1) (he : e ≠ 5) (hg : v.ownBlock ≠ some b) : w1.ownsRow base e size v n xs := by
 refine ⟨h.1, ?_⟩
 rcases h.2 with hn | ⟨g, cap, cur, rfl, hB, hgg, rest⟩
 . exact .inl hn
 . exact .inr ⟨g, cap, cur, rfl, hB, hk.others g _ hgg (fun e => hg (by injection e with e; simp [Value.ownBlock, e])) (fun c fz e1 => by injection e1 with _ e2; exact he e2), rest⟩
theorem Idx.keep {bm N : Nat} {ks : List (List UInt8)} (h : Idx w bm N ks) (hk : KeepB b w w1) (hb : bm ≠ b) : Idx w1 bm N ks := by
 obtain ⟨D, ⟨es, clock, hm, r⟩, r2⟩ := h
 exact ⟨D, ⟨es, clock, hk.others bm _ hm (fun e => hb (by injection e)) (fun c fz e => by cases e), r⟩, r2⟩
theorem bd_map {l : List UInt8} {bm N : Nat} {ks : List (List UInt8)} (h : Bd b l w) (hi : Idx w bm N ks) (hg : w.grownBy w1 (some bm)) : Bd b l w1 := by
 obtain ⟨D, ⟨es, clock, hm, r⟩, r2⟩ := hi
 refine bd_cells h fun k cs t fz hk => hg.block k (Array.getElem?_eq_some_iff.1 hk).1 (fun e => ?_)
 injection e with e
 subst e
 rw [hm] at hk
 cases hk
theorem blk_map {g : Nat} {t : TypeId} {cs : Array Value} {bm N : Nat} {ks : List (List UInt8)} (h : Blk w g t cs) (hi : Idx w bm N ks) (hg : w.grownBy w1 (some bm)) : Blk w1 g t cs := by
 obtain ⟨D, ⟨es, clock, hm, r⟩, r2⟩ := hi
 refine (hg.block g h.lt (fun e => ?_)).trans h
 injection e with e
 subst e
 unfold Blk at h
 rw [hm] at h
 cases h
theorem St.keep (h : St w) (hk : KeepB b w w1) (hb : 11 ≤ b) : St w1 := h.kept (keep_size hk) fun k hk2 => hk.below.block k (by omega)
end
end Js
end Go.Proofs.YtjohdaobhonioaaGreatDoor
namespace Go.Proofs.YtjohdaobhonioaaGreatDoor
namespace Js
end Js
end Go.Proofs.YtjohdaobhonioaaGreatDoor
namespace Go.Proofs.YtjohdaobhonioaaGreatDoor
open Go.RowKit
namespace Js
def WrC (n : Nat) : Prop := ∀ (d : Nat) (h : Hd) (k : F) (u : Value) (S : Nat -> Prop) (b : Nat) (l : List UInt8) (w : World), k.sz ≤ n -> trimH h = h -> trimK h k = k -> wrongs d h k = 0 -> Okh h -> k.All Okh -> TV (encN false) w S h k [u] -> (∀ x, S x -> x < b) -> 11 ≤ b -> Bd b l w -> St w ->
 l.length + (form h k).length ≤ 1099511627776 -> Calls Tryz.prog 140 #[.pointer (some ⟨b, 0, none⟩), u] w fun x w' => x = .returned (.tuple #[]) /\ Bd b (l ++ form h k) w' /\ KeepB b w w'
theorem at_u {us : List Value} {i : Nat} {u : Value} (h : us[i]? = some u) : (us.drop (i * 1)).take 1 = [u] := by
 rw [Nat.mul_one]
 have hlt2 : i < us.length := by
  rcases Nat.lt_or_ge i us.length with h1 | h1
  . exact h1
  . rw [List.getElem?_eq_none h1] at h; cases h
 rw [List.drop_eq_getElem_cons hlt2]
 rw [List.getElem?_eq_getElem hlt2] at h
 injection h with h
 simp [h]
theorem ta_number_plain (v : Value) (w : World) : (Instr.typeAssert (.iface 219 v) 129 211 true).run Tryz.prog w = .ok (.tuple #[.int .i64 0, .bool false]) w := by kernel_rfl
theorem ta_text_plain (v : Value) (w : World) : (Instr.typeAssert (.iface 212 v) 129 211 true).run Tryz.prog w = .ok (.tuple #[.int .i64 0, .bool false]) w := by kernel_rfl
theorem ta_text_number (v : Value) (w : World) : (Instr.typeAssert (.iface 212 v) 129 219 true).run Tryz.prog w = .ok (.tuple #[.int .i64 0, .bool false]) w := by kernel_rfl
theorem ta_list_plain (v : Value) (w : World) : (Instr.typeAssert (.iface 327 v) 129 211 true).run Tryz.prog w = .ok (.tuple #[.int .i64 0, .bool false]) w := by kernel_rfl
theorem ta_list_number (v : Value) (w : World) : (Instr.typeAssert (.iface 327 v) 129 219 true).run Tryz.prog w = .ok (.tuple #[.int .i64 0, .bool false]) w := by kernel_rfl
theorem ta_list_text (v : Value) (w : World) : (Instr.typeAssert (.iface 327 v) 129 212 true).run Tryz.prog w = .ok (.tuple #[.string .empty, .bool false]) w := by kernel_rfl
theorem ta_object_plain (v : Value) (w : World) : (Instr.typeAssert (.iface 329 v) 129 211 true).run Tryz.prog w = .ok (.tuple #[.int .i64 0, .bool false]) w := by kernel_rfl
theorem ta_object_number (v : Value) (w : World) : (Instr.typeAssert (.iface 329 v) 129 219 true).run Tryz.prog w = .ok (.tuple #[.int .i64 0, .bool false]) w := by kernel_rfl
theorem ta_object_text (v : Value) (w : World) : (Instr.typeAssert (.iface 329 v) 129 212 true).run Tryz.prog w = .ok (.tuple #[.string .empty, .bool false]) w := by kernel_rfl
theorem ta_object_list (v : Value) (w : World) : (Instr.typeAssert (.iface 329 v) 129 327 true).run Tryz.prog w = .ok (.tuple #[.slice none 0 0, .bool false]) w := by kernel_rfl
theorem ta_plain (v : Value) (w : World) : (Instr.typeAssert (.iface 211 v) 129 211 true).run Tryz.prog w = .ok (.tuple #[v, .bool true]) w := by kernel_rfl
theorem ta_number (v : Value) (w : World) : (Instr.typeAssert (.iface 219 v) 129 219 true).run Tryz.prog w = .ok (.tuple #[v, .bool true]) w := by kernel_rfl
theorem ta_text (v : Value) (w : World) : (Instr.typeAssert (.iface 212 v) 129 212 true).run Tryz.prog w = .ok (.tuple #[v, .bool true]) w := by kernel_rfl
theorem ta_list (v : Value) (w : World) : (Instr.typeAssert (.iface 327 v) 129 327 true).run Tryz.prog w = .ok (.tuple #[v, .bool true]) w := by kernel_rfl
theorem ta_object (v : Value) (w : World) : (Instr.typeAssert (.iface 329 v) 129 329 true).run Tryz.prog w = .ok (.tuple #[v, .bool true]) w := by kernel_rfl
theorem len_le_sumL : ∀ l : List (List UInt8), (∀ x ∈ l, 1 ≤ x.length) -> l.length ≤ sumL l
 | [], _ => Nat.zero_le _
 | x :: r, h => by
  have h1 := len_le_sumL r fun y hy => h y (List.mem_cons_of_mem _ hy)
  have h2 := h x (List.mem_cons_self ..)
  rw [sumL_cons, List.length_cons]
  omega
def WM (g bm L : Nat) (ks : List (List UInt8)) (cs : Array Value) (B : Nat) (v : Value) (xs : List Value) (w : World) : Prop := Idx w bm L ks /\ Blk w g 329 cs /\ w.ownsRow B 9 1 v L xs
theorem WM.keep {g bm L b B : Nat} {ks : List (List UInt8)} {cs : Array Value} {v : Value} {xs : List Value} {w w' : World} (h : WM g bm L ks cs B v xs w) (hk : KeepB b w w') (h1 : bm ≠ b) (h2 : g ≠ b) (h3 : v.ownBlock ≠ some b) : WM g bm L ks cs B v xs w' :=
 ⟨h.1.keep hk h1, blk_keep h.2.1 hk (by decide) h2, own_keep h.2.2 hk (by decide) h3⟩
theorem not_mem_take {l : List (List UInt8)} (hn : l.Nodup) {j : Nat} (hj : j < l.length) : l.getD j [] ∉ l.take j := by
 intro h
 have e : l = l.take j ++ l.getD j [] :: l.drop (j + 1) := by
  have h1 := List.take_append_drop j l
  rw [List.drop_eq_getElem_cons hj] at h1
  rw [List.getD, List.getElem?_eq_getElem hj]
  exact h1.symm
 rw [e, List.nodup_append] at hn
 exact hn.2.2 _ h _ (List.mem_cons_self ..) rfl
set_option maxHeartbeats 16000000 in
set_option maxRecDepth 100000 in
theorem wr_step (n : Nat) (hW : ∀ m, m < n -> WrC m) : WrC n := by
 intro d h k u S b l w hk ht1 ht2 hw hok hak htv hS hnb hb hst hlen
 have HW := Lib.hid hW
 have HK := Lib.hid hk
 have HAK := Lib.hid hak
 have HS := Lib.hid hS
 have HB := Lib.hid hb
 have HST := Lib.hid hst
 have HOK := Lib.hid hok
 have hbw : b < w.heap.size := hb.lt
 obtain ⟨e0, e1⟩ := wrongs_zero hw
 obtain ⟨_, ekl, ekh, ekl6, _, ek6⟩ := own_zero e0
 clear hW hk hak hS hb hst hok hw
 rcases node_kinds htv ht1 ht2 with ⟨z, rfl, rfl, rfl, z3, z4, z5, z6⟩ | ⟨z, rfl, rfl, rfl⟩ | ⟨t, rfl, rfl, rfl⟩ | ⟨A, c, us, rfl, rfl, htk, hkl, r1, r2⟩ | ⟨A, c, us, A', c', ks, rfl, rfl, htk, hkl, hksl, r1, r2, r3⟩
 . simp only [plainH] at ekl ekh
   have hz : z = 0 ∨ z = 1 ∨ z = 2 := by omega
   clear ht1 ht2 htv e0 e1 ekl ekh ekl6 ek6 z3 z4 z5 z6
   rcases hz with rfl | rfl | rfl
   all_goals
    have hL : l.length + 5 ≤ 140737488355328 := by omega
    have q_me := ta_plain
    go_enter Tryz.func140, Tryz.ntmps140
    go_wp2_with fail
    refine Calls.mono (writeString_b b l _ _ (Bd.step HB.out ((Below.refl _ _).alloc (Nat.le_refl _) _)) ?hs) ?_
    case hs => exact Nat.le_trans (Nat.add_le_add_left (show ByteArray.size _ ≤ 5 by decide) _) hL
    rintro x w1 ⟨rfl, hB1, hk1⟩
    have HB1 := Lib.hid hB1
    have HK1 := Lib.hid ((keep_alloc (KeepB.refl b w) (Nat.le_of_lt hbw) _).trans hk1)
    clear hB1 hk1
    go_wp2
    go_end0
    exact ⟨rfl, HB1.out, HK1.out⟩
 . have HF := Lib.hid (format_any z HOK.out.2.1 HOK.out.2.2 w HST.out)
   have HL : Hid (l.length + (decI z).length ≤ 140737488355328) := Lib.hid (by
    have : (form ⟨3, z, [], []⟩ .nil).length = (decI z).length := rfl
    omega)
   clear ht1 ht2 htv e0 e1 ekl ekh ekl6 ek6
   have q_me := ta_number
   have q_plain := ta_number_plain
   go_enter Tryz.func140, Tryz.ntmps140
   go_wp2_with fail
   refine HF.out.mono ?_
   rintro x w1 ⟨rfl, hb1⟩
   have HK0 := Lib.hid (keep_step (KeepB.refl b w) hb1 (Nat.le_refl _) (Nat.le_of_lt hbw))
   have HB0 := Lib.hid (Bd.step HB.out hb1)
   clear hb1
   go_wp2_with fail
   refine (writeString_b b l _ _ HB0.out (by simp only [ByteArray.size, List.size_toArray]; exact HL.out)).mono ?_
   rintro x w2 ⟨rfl, hB1, hk1⟩
   have HB1 := Lib.hid hB1
   have HK1 := Lib.hid (HK0.out.trans hk1)
   clear hB1 hk1
   go_wp2
   go_end0
   exact ⟨rfl, HB1.out, HK1.out⟩
 . have HQ := Lib.hid (quote_any b l t w HB.out (by have := HOK.out.1.1; simp only at this; omega))
   clear ht1 ht2 htv e0 e1 ekl ekh ekl6 ek6
   have q_me := ta_text
   have q_plain := ta_text_plain
   have q_number := ta_text_number
   go_enter Tryz.func140, Tryz.ntmps140
   go_wp2_with fail
   refine HQ.out.mono ?_
   rintro x w1 ⟨rfl, hB1, hk1⟩
   have HB1 := Lib.hid hB1
   have HK1 := Lib.hid hk1
   clear hB1 hk1 HQ
   go_wp2
   go_end0
   exact ⟨rfl, HB1.out, HK1.out⟩
 . have e5 := e1 (show (5 : Int) ≤ 5 by decide)
   have HE := Lib.hid e5
   have HR := Lib.hid (r1.reads HS.out)
   have HTR := Lib.hid r2
   have HTK : Hid (trim k = k) := Lib.hid htk
   have HFM : Hid (form (plainH 5) k = 91 :: (commas (forms k) ++ [93])) := Lib.hid rfl
   have HLEN : Hid (l.length + (commas (forms k)).length + 2 ≤ 1099511627776) := Lib.hid (by
    have := hlen
    rw [HFM.out] at this
    simp at this
    omega)
   rw [HFM.out]
   obtain ⟨L, hL⟩ : ∃ L, L = k.len := ⟨_, rfl⟩
   have HL := Lib.hid hL
   rw [<- hL] at HR hkl ⊢
   clear ht1 ht2 htv e0 e1 ekl ekh ekl6 ek6 r1 r2 htk hlen e5 hL
   have q_me := ta_list
   have q_plain := ta_list_plain
   have q_number := ta_list_number
   have q_text := ta_list_text
   go_enter Tryz.func140, Tryz.ntmps140
   go_wp2_with fail
   refine (writeByte_b b l 91 _ HB.out (by have := HLEN.out; omega)).mono ?_
   rintro x w1 ⟨rfl, hB1, hk1⟩
   have HB1 := Lib.hid hB1
   have HK1 := Lib.hid hk1
   clear hB1 hk1 HB
   go_wp2_with fail
   go_loopw [46] (fun i wr => ∃ j : Nat, j ≤ L /\ i = .int .i64 j /\ Hid (Bd b (l ++ 91 :: commas ((forms k).take j)) wr) /\ Hid (KeepB b w wr)) (fun i _ => L - (intOf i).toNat)
   case atStart => exact ⟨0, by omega, rfl, Lib.hid (by simpa [commas] using HB1.out), HK1⟩
   case round =>
    clear HB1 HK1
    obtain ⟨j, hj, rfl, HBJ, HKJ⟩ := hrel
    by_cases hlt : j < L
    . obtain ⟨ad, u, rfl, _, hu, hc⟩ := (HR.out.below HKJ.out.below).at_ hlt
      obtain ⟨h0, kk, he, hsz, htv⟩ := HTR.out.at_ (i := j) (by have := HL.out; omega)
      obtain ⟨ht1, ht2⟩ := trim_at HTK.out he
      have htv1 : TV (encN false) w S h0 kk [u] := at_u hu ▸ htv
      obtain ⟨hok0, hak0⟩ := All_at HAK.out he
      obtain ⟨T0, y0, rfl⟩ := htv1.iface
      have HTV := Lib.hid (htv1.kept (w' := wr) fun p hp => HKJ.out.below.cell (HS.out _ hp))
      have HC : Hid (∀ (l' : List UInt8) (wx : World), KeepB b wr wx -> Bd b l' wx -> l'.length + (form h0 kk).length ≤ 1099511627776 -> Calls Tryz.prog 140 #[.pointer (some ⟨b, 0, none⟩), .iface T0 y0] wx fun x w' => x = .returned (.tuple #[]) /\ Bd b (l' ++ form h0 kk) w' /\ KeepB b wx w') :=
        Lib.hid fun l' wx hkx hbx hlx => HW.out kk.sz (by have := HK.out; omega) (d + 1) h0 kk _ S b l' wx (Nat.le_refl _) ht1 ht2 (wrongsF_at HE.out he) hok0 hak0 (HTV.out.kept fun p hp => hkx.below.cell (HS.out _ hp)) HS.out hnb hbx (HST.out.keep (HKJ.out.trans hkx) hnb) hlx
      have HTF : Hid (commas ((forms k).take (j + 1)) = if j = 0 then form h0 kk else commas ((forms k).take j) ++ 44 :: form h0 kk) := Lib.hid (commas_take (forms_at he))
      have HCL : Hid ((commas ((forms k).take (j + 1))).length ≤ (commas (forms k)).length) := Lib.hid (commas_take_le _ _)
      clear htv htv1 ht1 ht2 hu he hsz hok0 hak0
      by_cases h0' : j = 0
      . have hpos : (0 < (j : Int)) = False := eq_false (by omega)
        have hc0 : wr.cell? ad = some (.iface T0 y0) := by
          have h1 := hc
          subst h0'
          simpa [Addr.add] using h1
        have HB2 := Lib.hid (HC.out _ wr (KeepB.refl _ _) HBJ.out (by
          have h1 := HCL.out
          rw [HTF.out, if_pos h0'] at h1
          have := HLEN.out
          subst h0'
          simp [commas]; omega))
        go_wp2_with fail
        refine HB2.out.mono ?_
        rintro x w2 ⟨rfl, hB2, hk2⟩
        have HB3 : Hid (Bd b (l ++ 91 :: commas ((forms k).take (j + 1))) w2) := Lib.hid (by rw [HTF.out, if_pos h0']; subst h0'; simpa [commas] using hB2)
        have HK3 := Lib.hid (HKJ.out.trans hk2)
        clear hB2 hk2 HB2
        go_wp2
        go_roundw
        case rel => exact ⟨j + 1, by omega, by go_num, HB3, HK3⟩
        case measure => simp [intOf]; omega
      . have hpos : (0 < (j : Int)) = True := eq_true (by omega)
        have hl1 : l.length + (commas ((forms k).take j)).length + 2 + (form h0 kk).length ≤ 1099511627776 := by
          have h1 := HCL.out
          rw [HTF.out, if_neg h0', List.length_append, List.length_cons] at h1
          have := HLEN.out
          omega
        have HW1 := Lib.hid (writeByte_b b _ 44 wr HBJ.out (by simp; omega))
        go_wp2_with fail
        refine HW1.out.mono ?_
        rintro x w2 ⟨rfl, hB2, hk2⟩
        have HB2 := Lib.hid (HC.out _ w2 hk2 hB2 (by simp; omega))
        have HKK := Lib.hid hk2
        clear hB2 hk2 HW1
        go_wp2_with fail
        refine HB2.out.mono ?_
        rintro x w3 ⟨rfl, hB3, hk3⟩
        have HB3 : Hid (Bd b (l ++ 91 :: commas ((forms k).take (j + 1))) w3) := Lib.hid (by rw [HTF.out, if_neg h0']; simpa using hB3)
        have HK3 := Lib.hid (HKJ.out.trans (HKK.out.trans hk3))
        clear hB3 hk3 HB2
        go_wp2
        go_roundw
        case rel => exact ⟨j + 1, by omega, by go_num, HB3, HK3⟩
        case measure => simp [intOf]; omega
    . have hjL : j = L := by omega
      subst hjL
      have HB1 : Hid (Bd b (l ++ 91 :: commas (forms k)) wr) := Lib.hid (by
        have h1 := HBJ.out
        rwa [List.take_of_length_le (by rw [forms_len, HL.out]; exact Nat.le_refl _)] at h1)
      have HW1 := Lib.hid (writeByte_b b _ 93 wr HB1.out (by have := HLEN.out; simp; omega))
      go_wp2_with fail
      refine HW1.out.mono ?_
      rintro x w2 ⟨rfl, hB2, hk2⟩
      have HB3 : Hid (Bd b (l ++ 91 :: (commas (forms k) ++ [93])) w2) := Lib.hid (by simpa using hB2)
      have HK3 := Lib.hid (HKJ.out.trans hk2)
      clear hB2 hk2
      go_wp2
      go_end0
      exact ⟨rfl, HB3.out, HK3.out⟩
 . have e6 := e1 (show (5 : Int) ≤ 6 by decide)
   have hnd : ks.Nodup := nodup_of_dupL (ek6 rfl).2
   have hlk : ks.length = k.len := ekl6 rfl
   have HE := Lib.hid e6
   have HND := Lib.hid hnd
   have HR := Lib.hid (r1.reads HS.out)
   have HTR := Lib.hid r2
   have HRK := Lib.hid (r3.reads HS.out)
   have HTK : Hid (trim k = k) := Lib.hid htk
   obtain ⟨P, hP⟩ : ∃ P, P = sortK (ks.zip (forms k)) := ⟨_, rfl⟩
   have HFM : Hid (form ⟨6, 0, [], ks⟩ k = 123 :: (commas (P.map member) ++ [125])) := Lib.hid (by rw [hP]; rfl)
   have HPL : Hid (P.length = ks.length) := Lib.hid (by rw [hP, (sortK_perm _).length_eq, List.length_zip, forms_len, hlk, Nat.min_self])
   have HPA : Hid (∀ (i : Nat) (x y : List UInt8), P[i]? = some (x, y) -> ∃ j, ks[j]? = some x /\ (forms k)[j]? = some y /\ j < ks.length) := Lib.hid (fun i x y h => sortK_at (by rw [<- hP]; exact h))
   have HSO : Hid (∀ ss : List (List UInt8), ss.Perm ks -> ss.mergeSort (fun x y => decide (x ≤ y)) = P.map Prod.fst) := Lib.hid (fun ss h => by rw [hP]; exact sort_keys hnd (by rw [forms_len]; exact hlk) h)
   have HLEN : Hid (l.length + (commas (P.map member)).length + 2 ≤ 1099511627776) := Lib.hid (by
    have := hlen
    rw [HFM.out] at this
    simp at this
    omega)
   rw [HFM.out]
   have HKX : Hid (∀ x ∈ ks, x.length ≤ 4398046511104) := Lib.hid HOK.out.1.2
   obtain ⟨L, hL⟩ : ∃ L, L = ks.length := ⟨_, rfl⟩
   have HL := Lib.hid hL
   have HLK : Hid (L = k.len) := Lib.hid (hL.trans hlk)
   have HLB : Hid (L ≤ 1099511627776) := Lib.hid (by
    have h1 := HLEN.out
    rw [commas_len, List.length_map, HPL.out, <- hL] at h1
    have h2 := len_le_sumL (P.map member) (fun x hx => by
      obtain ⟨p, _, rfl⟩ := List.mem_map.1 hx
      simp [member]; omega)
    rw [List.length_map, HPL.out, <- hL] at h2
    omega)
   rw [<- hL] at HRK hksl ⊢
   rw [<- HLK.out] at HR hkl ⊢
   clear ht1 ht2 htv e0 e1 ekl ekh ekl6 ek6 r1 r2 r3 htk hlen e6 hL hnd hlk hP
   have hmm := @run_makeMap Tryz.prog
   have q_me := ta_object
   have q_plain := ta_object_plain
   have q_number := ta_object_number
   have q_text := ta_object_text
   have q_list := ta_object_list
   have hok1 : w.heap.size ≠ b := by omega
   obtain ⟨wz, hwz⟩ : ∃ wz, wz = w.alloc (.cells #[.slice A' L c', .slice A L c] 329) := ⟨_, rfl⟩
   have HO : Hid (Blk wz w.heap.size 329 #[.slice A' L c', .slice A L c]) := Lib.hid (by rw [hwz]; exact Blk.new _ _ _)
   have HKZ : Hid (KeepB b w wz) := Lib.hid (by rw [hwz]; exact keep_alloc (KeepB.refl b w) (Nat.le_of_lt hbw) _)
   have HBZ : Hid (Bd b l wz) := Lib.hid (by rw [hwz]; exact Bd.step HB.out ((Below.refl _ _).alloc (Nat.le_refl _) _))
   go_enter Tryz.func140, Tryz.ntmps140
   go_wp2_with fail
   rw [<- hwz]
   clear hwz
   refine (writeByte_b b l 123 wz HBZ.out (by have := HLEN.out; omega)).mono ?_
   rintro x w1 ⟨rfl, hB1, hk1⟩
   have HO1 := Lib.hid (blk_keep HO.out hk1 (by decide) hok1)
   have HB1 := Lib.hid hB1
   have HK1 := Lib.hid (HKZ.out.trans hk1)
   have HGM : Hid (w.heap.size < w1.heap.size /\ b < w1.heap.size) := Lib.hid ⟨HO1.out.lt, hB1.lt⟩
   clear hB1 hk1 HO HKZ HBZ HB
   have c0 := (HO1.out.alloc (.map #[] 0)).cell 0
   have c0' := (HO1.out.alloc (.map #[] 0)).frozen 0
   go_wp2_with fail
   go_loopw [70] (fun i wr => ∃ j : Nat, j ≤ L /\ i = .int .i64 j /\ Hid (Idx wr w1.heap.size j (ks.take j)) /\ Hid (Bd b (l ++ [123]) wr) /\ Hid (KeepB b w wr) /\ Hid (Blk wr w.heap.size 329 #[.slice A' L c', .slice A L c])) (fun i _ => L - (intOf i).toNat)
   case atStart => exact ⟨0, by omega, rfl, Lib.hid (Idx.made _), Lib.hid (Bd.step HB1.out ((Below.refl _ _).alloc (Nat.le_refl _) _)), Lib.hid (keep_alloc HK1.out (Nat.le_of_lt HGM.out.2) _), Lib.hid (HO1.out.alloc _)⟩
   case round =>
    clear HB1 HK1 HO1 c0 c0'
    obtain ⟨j, hj, rfl, HI, HBJ, HKJ, HOJ⟩ := hrel
    by_cases hlt : j < L
    . obtain ⟨ad, u, rfl, _, hu, hc⟩ := (HRK.out.below HKJ.out.below).at_ hlt
      have hlt2 : j < ks.length := by have := HL.out; omega
      have hxu := tx_get hu hlt2
      subst hxu
      have HX : Hid (ks.take (j + 1) = ks.take j ++ [ks.getD j []]) := Lib.hid (by rw [List.take_succ_eq_append_getElem hlt2]; simp [List.getD, List.getElem?_eq_getElem hlt2])
      have HXN : Hid (ks.getD j [] ∉ ks.take j) := Lib.hid (not_mem_take HND.out hlt2)
      have HXL : Hid ((ks.getD j []).length ≤ 4398046511104) := Lib.hid (HKX.out _ (by simp [List.getD, List.getElem?_eq_getElem hlt2]))
      have HTL : Hid ((ks.take j).length = j) := Lib.hid (by rw [List.length_take]; omega)
      generalize ks.getD j [] = x at hc hu HX HXN HXL
      have hjb : j ≤ 1099511627776 := by have := HLB.out; omega
      clear hu
      go_wp2_with (at_mapUpdate; refine wpList_idx rfl _ _ _ rfl rfl HI.out Tryz.underlying331 hjb x HXN.out (by rw [HTL.out]; exact hjb) rfl (by rw [HTL.out]; rfl) (by have := HXL.out; omega) ?_; intro w7 hs7 hg7)
      go_roundw
      case rel => exact ⟨j + 1, by omega, by go_num, Lib.hid (by rw [HX.out]; exact hs7), Lib.hid (bd_map HBJ.out HI.out hg7), Lib.hid (keep_grown HKJ.out hg7 (Nat.le_of_lt HGM.out.1) (Nat.le_of_lt HGM.out.2) (by have := HBJ.out.lt; omega)), Lib.hid (blk_map HOJ.out HI.out hg7)⟩
      case measure => simp [intOf]; omega
    . have hjL : j = L := by omega
      subst hjL
      have HI1 : Hid (Idx wr w1.heap.size j ks) := Lib.hid (by
        have h1 := HI.out
        have e : ks.take j = ks := by rw [HL.out]; exact List.take_length
        rw [e] at h1
        exact h1)
      have HSRT := Lib.hid (sorted_any HI1.out HND.out (by rw [<- HL.out]; exact HLB.out))
      clear HI
      go_wp2_with fail
      refine (keys_any w1.heap.size wr).mono ?_
      rintro x w2 ⟨rfl, rfl⟩
      go_wp2_with fail
      refine HSRT.out.mono ?_
      rintro x w3 ⟨v, ss, rfl, hperm, hrow, hb3⟩
      rw [HSO.out ss hperm, hperm.length_eq, <- HL.out] at hrow
      have hbw3 : Below wr.heap.size wr w3 := ((Below.refl _ wr).alloc (Nat.le_refl _) _).trans (hb3.mono (by omega))
      have HK3 := Lib.hid (keep_step HKJ.out hbw3 (keep_size HKJ.out) (Nat.le_of_lt HBJ.out.lt))
      have HB3 := Lib.hid (Bd.step HBJ.out hbw3)
      have HVB : Hid (v.ownBlock ≠ some b) := Lib.hid (fun e => by have := (own_lt hrow e).1; have := HBJ.out.lt; omega)
      have HM3 : Hid (WM w.heap.size w1.heap.size j ks #[.slice A' j c', .slice A j c] (wr.heap.size + 1) v (tx (P.map Prod.fst)) w3) := Lib.hid ⟨HI1.out.block (hbw3.block _ HI1.out.lt), HOJ.out.below hbw3 HOJ.out.lt, hrow⟩
      obtain ⟨A2, c2, rfl, _⟩ := own_readsN hrow
      have hbm : w1.heap.size ≠ b := by have := HGM.out.2; omega
      have HPJ : Hid (P.length = j) := Lib.hid (HPL.out.trans HL.out.symm)
      generalize wr.heap.size + 1 = B3 at HM3
      clear hrow hb3 hbw3 HKJ HBJ HOJ HSRT HI1 hperm
      obtain ⟨wq, hwq⟩ : ∃ wq, wq = wr := ⟨_, rfl⟩
      subst hwq
      go_wp2_with fail
      go_loopw [83] (fun i wr => ∃ q : Nat, q ≤ j /\ i = .int .i64 q /\ Hid (Bd b (l ++ 123 :: commas ((P.map member).take q)) wr) /\ Hid (KeepB b w wr) /\ Hid (WM w.heap.size w1.heap.size j ks #[.slice A' j c', .slice A j c] B3 (.slice A2 j c2) (tx (P.map Prod.fst)) wr)) (fun i _ => j - (intOf i).toNat)
      case atStart => exact ⟨0, by omega, rfl, Lib.hid (by simpa [commas] using HB3.out), HK3, HM3⟩
      case round =>
        clear HB3 HK3 HM3
        obtain ⟨q, hq, rfl, HBQ, HKQ, HMQ⟩ := hrel
        by_cases hlt : q < j
        . obtain ⟨p, hp⟩ : ∃ p, P[q]? = some p := ⟨P[q]'(by rw [HPJ.out]; exact hlt), List.getElem?_eq_getElem _⟩
          obtain ⟨x, y⟩ := p
          obtain ⟨q2, hk1, hk2, hq2⟩ := HPA.out q x y hp
          have hq2j : q2 < j := by have := HL.out; omega
          obtain ⟨h0, kk, he, hsz, htv⟩ := HTR.out.at_ (i := q2) (by have := HLK.out; omega)
          have hy : y = form h0 kk := by
            have h1 := forms_at he
            rw [hk2] at h1
            exact Option.some.inj h1
          subst hy
          obtain ⟨ht1, ht2⟩ := trim_at HTK.out he
          obtain ⟨hok0, hak0⟩ := All_at HAK.out he
          have HTF : Hid (commas ((P.map member).take (q + 1)) = if q = 0 then member (x, form h0 kk) else commas ((P.map member).take q) ++ 44 :: member (x, form h0 kk)) := Lib.hid (commas_take (by rw [List.getElem?_map, hp]; rfl))
          have HCL : Hid ((commas ((P.map member).take (q + 1))).length ≤ (commas (P.map member)).length) := Lib.hid (commas_take_le _ _)
          have HXL : Hid (x.length ≤ 4398046511104) := Lib.hid (HKX.out x (List.mem_of_getElem? hk1))
          have HKI := Lib.hid hk1
          obtain ⟨ad2, u2, e2, _, hu2, hc2⟩ := (Reads.of_own HMQ.out.2.2).at_ hlt
          have hxu := tx_get hu2 (by rw [List.length_map, HPJ.out]; exact hlt)
          have hgx : (P.map Prod.fst).getD q [] = x := by simp [List.getD, hp]
          rw [hgx] at hxu
          subst hxu
          obtain ⟨ad3, u3, e3, _, hu3, hc3⟩ := (HR.out.below HKQ.out.below).at_ hq2j
          have htv1 : TV (encN false) w S h0 kk [u3] := at_u hu3 ▸ htv
          obtain ⟨T0, y0, rfl⟩ := htv1.iface
          subst e2 e3
          have HTV := Lib.hid (htv1.kept (w' := wr) fun p hp => HKQ.out.below.cell (HS.out _ hp))
          have HC : Hid (∀ (l' : List UInt8) (wx : World), KeepB b wr wx -> Bd b l' wx -> l'.length + (form h0 kk).length ≤ 1099511627776 -> Calls Tryz.prog 140 #[.pointer (some ⟨b, 0, none⟩), .iface T0 y0] wx fun x w' => x = .returned (.tuple #[]) /\ Bd b (l' ++ form h0 kk) w' /\ KeepB b wx w') :=
            Lib.hid fun l' wx hkx hbx hlx => HW.out kk.sz (by have := HK.out; omega) (d + 1) h0 kk _ S b l' wx (Nat.le_refl _) ht1 ht2 (wrongsF_at HE.out he) hok0 hak0 (HTV.out.kept fun p hp => hkx.below.cell (HS.out _ hp)) HS.out hnb hbx (HST.out.keep (HKQ.out.trans hkx) hnb) hlx
          have HC3 := Lib.hid (show ∀ wx, KeepB b wr wx -> wx.cell? (ad3.add q2) = some (.iface T0 y0) from fun wx hkx => by
            obtain ⟨ad', e', hb', _⟩ := (HR.out.below HKQ.out.below).2 (by omega)
            injection e' with e'
            subst e'
            exact (hkx.below.cell (by rw [block_of_add]; exact hb')).trans hc3)
          clear htv htv1 ht1 ht2 he hsz hok0 hak0 hu2 hu3 hk1 hk2 hgx hp hc3
          generalize form h0 kk = y at HC HTF
          have hmem : (member (x, y)).length = (quoted x).length + 1 + y.length := by simp [member]; omega
          have hql := quoted_len x
          have HCUT : Hid (∀ l0 : List UInt8, l0.length ≤ l.length + 1 + (commas ((P.map member).take q)).length + 1 -> (q = 0 -> l0.length ≤ l.length + 1) -> l0.length + ((quoted x).length + 1 + y.length) ≤ 1099511627776) := Lib.hid (fun l0 h1 h2 => by
            have h3 := HCL.out
            have h4 := HLEN.out
            rw [HTF.out] at h3
            by_cases e : q = 0
            . rw [if_pos e] at h3; have := h2 e; omega
            . rw [if_neg e, List.length_append, List.length_cons] at h3; omega)
          by_cases h0' : q = 0
          . have hpos : (0 < (q : Int)) = False := eq_false (by omega)
            have hc20 : wr.cell? ad2 = some (.string ⟨x.toArray⟩) := by
              have h1 := hc2
              subst h0'
              simpa [Addr.add] using h1
            have HQ1 := Lib.hid (quote_any b _ x wr HBQ.out (by
              have := HLEN.out
              have := HXL.out
              subst h0'
              simp [commas]; omega))
            go_wp2_with fail
            refine HQ1.out.mono ?_
            rintro z w2 ⟨rfl, hB2, hk2⟩
            have HB2 : Hid (Bd b (l ++ 123 :: quoted x) w2) := Lib.hid (by subst h0'; simpa [commas] using hB2)
            have HK2 := Lib.hid hk2
            clear hB2 hk2 HQ1
            have HQ2 := Lib.hid (writeByte_b b _ 58 w2 HB2.out (by
              have := HCUT.out l (by omega) (fun _ => by omega)
              simp; omega))
            go_wp2_with fail
            refine HQ2.out.mono ?_
            rintro z w3 ⟨rfl, hB3, hk3⟩
            have HB3 := Lib.hid hB3
            have HK3 := Lib.hid (HK2.out.trans hk3)
            clear hB3 hk3 HQ2
            have HM3 := Lib.hid (HMQ.out.keep HK3.out hbm hok1 HVB.out)
            have c1 := HM3.out.2.1.cell 1
            have f1 := HM3.out.2.1.frozen 1
            have hlk := HM3.out.1.look Tryz.underlying331 HKI.out (by have := HXL.out; omega)
            have hc3 := HC3.out w3 HK3.out
            have HQ3 := Lib.hid (HC.out _ w3 HK3.out HB3.out (by
              have := HCUT.out (l ++ [123]) (by simp; omega) (fun _ => by simp)
              simp at this ⊢; omega))
            go_wp2_with fail
            refine HQ3.out.mono ?_
            rintro z w4 ⟨rfl, hB4, hk4⟩
            have HB4 : Hid (Bd b (l ++ 123 :: commas ((P.map member).take (q + 1))) w4) := Lib.hid (by rw [HTF.out, if_pos h0']; simpa [member] using hB4)
            have HK4 := Lib.hid (HKQ.out.trans (HK3.out.trans hk4))
            have HM4 := Lib.hid (HM3.out.keep hk4 hbm hok1 HVB.out)
            clear hB4 hk4 c1 f1 hlk hc3
            go_wp2
            go_roundw
            case rel => exact ⟨q + 1, by omega, by go_num, HB4, HK4, HM4⟩
            case measure => simp [intOf]; omega
          . have hpos : (0 < (q : Int)) = True := eq_true (by omega)
            have HQ0 := Lib.hid (writeByte_b b _ 44 wr HBQ.out (by
              have := HCUT.out (l ++ 123 :: commas ((P.map member).take q)) (by simp; omega) (fun e => absurd e h0')
              simp at this ⊢; omega))
            go_wp2_with fail
            refine HQ0.out.mono ?_
            rintro z w1' ⟨rfl, hB1', hk1'⟩
            have HB1' : Hid (Bd b (l ++ 123 :: commas ((P.map member).take q) ++ [44]) w1') := Lib.hid hB1'
            have HK1' := Lib.hid hk1'
            have hlen0 : (l ++ 123 :: commas ((P.map member).take q) ++ [44]).length = l.length + 1 + (commas ((P.map member).take q)).length + 1 := by simp; omega
            have HBE : Hid (∀ wx, Bd b ((l ++ 123 :: commas ((P.map member).take q) ++ [44]) ++ quoted x ++ [58] ++ y) wx -> Bd b (l ++ 123 :: commas ((P.map member).take (q + 1))) wx) := Lib.hid (fun wx h => by rw [HTF.out, if_neg h0']; simpa [member] using h)
            generalize l ++ 123 :: commas ((P.map member).take q) ++ [44] = l1 at HB1' hlen0 HBE
            clear hB1' hk1' HQ0
            have HQ1 := Lib.hid (quote_any b l1 x w1' HB1'.out (by
              have := HLEN.out
              have := HXL.out
              have := HCUT.out l1 (by omega) (fun e => absurd e h0')
              omega))
            go_wp2_with fail
            refine HQ1.out.mono ?_
            rintro z w2 ⟨rfl, hB2, hk2⟩
            have HB2 := Lib.hid hB2
            have HK2 := Lib.hid (HK1'.out.trans hk2)
            clear hB2 hk2 HQ1
            have HQ2 := Lib.hid (writeByte_b b _ 58 w2 HB2.out (by
              have := HCUT.out l1 (by omega) (fun e => absurd e h0')
              simp; omega))
            go_wp2_with fail
            refine HQ2.out.mono ?_
            rintro z w3 ⟨rfl, hB3, hk3⟩
            have HB3 := Lib.hid hB3
            have HK3 := Lib.hid (HK2.out.trans hk3)
            clear hB3 hk3 HQ2
            have HM3 := Lib.hid (HMQ.out.keep HK3.out hbm hok1 HVB.out)
            have c1 := HM3.out.2.1.cell 1
            have f1 := HM3.out.2.1.frozen 1
            have hlk := HM3.out.1.look Tryz.underlying331 HKI.out (by have := HXL.out; omega)
            have hc3 := HC3.out w3 HK3.out
            have HQ3 := Lib.hid (HC.out _ w3 HK3.out HB3.out (by
              have := HCUT.out l1 (by omega) (fun e => absurd e h0')
              simp; omega))
            go_wp2_with fail
            refine HQ3.out.mono ?_
            rintro z w4 ⟨rfl, hB4, hk4⟩
            have HB4 := Lib.hid (HBE.out _ hB4)
            have HK4 := Lib.hid (HKQ.out.trans (HK3.out.trans hk4))
            have HM4 := Lib.hid (HM3.out.keep hk4 hbm hok1 HVB.out)
            clear hB4 hk4 c1 f1 hlk hc3
            go_wp2
            go_roundw
            case rel => exact ⟨q + 1, by omega, by go_num, HB4, HK4, HM4⟩
            case measure => simp [intOf]; omega
        . have hqj : q = j := by omega
          subst hqj
          have HB1 : Hid (Bd b (l ++ 123 :: commas (P.map member)) wr) := Lib.hid (by
            have h1 := HBQ.out
            rwa [List.take_of_length_le (by rw [List.length_map, HPJ.out]; exact Nat.le_refl _)] at h1)
          have HW1 := Lib.hid (writeByte_b b _ 125 wr HB1.out (by have := HLEN.out; simp; omega))
          go_wp2_with fail
          refine HW1.out.mono ?_
          rintro x w2 ⟨rfl, hB2, hk2⟩
          have HB4 : Hid (Bd b (l ++ 123 :: (commas (P.map member) ++ [125])) w2) := Lib.hid (by simpa using hB2)
          have HK4 := Lib.hid (HKQ.out.trans hk2)
          clear hB2 hk2
          go_wp2
          go_end0
          exact ⟨rfl, HB4.out, HK4.out⟩
theorem wr_any (n : Nat) : WrC n := by
 induction n using Nat.strongRecOn with
 | ind n ih => exact wr_step n ih
end Js
end Go.Proofs.YtjohdaobhonioaaGreatDoor
namespace Go.Proofs.YtjohdaobhonioaaGreatDoor
open Go.RowKit
namespace Js
theorem ofs_any (n : Nat) : OfC n := by
 induction n using Nat.strongRecOn with
 | ind n ih => exact of_step n (all_step n ih)
theorem bd_row {b : Nat} {l : List UInt8} {w : World} (h : Bd b l w) : ∃ p A c, Blk w b 196 #[p, .slice A l.length c] := by
 have g : ∀ p, Lib.BuilderAtF 196 5 b b p (Lib.byteCells l) w -> ∃ p A c, Blk w b 196 #[p, .slice A l.length c] := by
   rintro p ⟨_, v, hb, ⟨hl, ho⟩, _⟩
   rcases ho with ⟨rfl, h0⟩ | ⟨g, cap, cur, fz, rfl, _⟩
   . have : l.length = 0 := by simpa [Lib.byteCells] using h0
     exact ⟨p, none, 0, by rw [this]; exact hb⟩
   . have e : (Lib.byteCells l).length = l.length := by simp [Lib.byteCells]
     rw [e] at hb
     exact ⟨p, _, cap, hb⟩
 rcases h with h | h
 . exact g _ h
 . exact g _ h
theorem len_b (b : Nat) (l : List UInt8) (w : World) (h : Bd b l w) : Calls Tryz.prog 141 #[.pointer (some ⟨b, 0, none⟩)] w fun x w' => x = .returned (.int .i64 l.length) /\ w = w' := by
 obtain ⟨p, A, c, hb⟩ := bd_row h
 have c1 := hb.cell 1
 have f1 := hb.frozen 1
 go_enter Tryz.func141, Tryz.ntmps141
 go_wp2
 go_ret
 exact ⟨rfl, rfl⟩
def PrPost (h : Hd) (k : F) (w : World) (x : Ending) (w' : World) : Prop :=
 Below w.heap.size w w' /\ ((printed h k).2 = 0 /\ x = .returned (.tuple #[.string ⟨(form h k).toArray⟩, .nilIface]) ∨ (printed h k).2 ≠ 0 /\ x = .returned (.tuple #[.string .empty, errnoV (printed h k).2]))
set_option maxHeartbeats 16000000 in
set_option maxRecDepth 100000 in
theorem print_any (h : Hd) (k : F) (iv kv : Value) (S : Nat -> Prop) (w : World) (hok : Okh h) (hak : k.All Okh) (htv : TV encJ w S h k (jcells h iv kv)) (hS : ∀ b, S b -> b < w.heap.size) (hst : St w) (hlen : wrongs 1 h k = 0 -> (form h k).length ≤ 1099511627776) :
   Calls Tryz.prog 42 #[.agg #[.int .i64 h.kind, .int .i64 h.num, .string ⟨h.text.toArray⟩, iv, kv]] w (PrPost h k w) := by
 have hfit : k.All Fit := by
   have g : ∀ f : F, f.All Okh -> f.All Fit := by
     intro f
     induction f with
     | nil => exact fun _ => trivial
     | cons h k r ih1 ih2 => exact fun e => ⟨e.1.1, ih1 e.2.1, ih2 e.2.2⟩
   exact g k hak
 obtain ⟨wz, hwz⟩ : ∃ wz, wz = w.alloc (.cells #[.int .i64 h.kind, .int .i64 h.num, .string ⟨h.text.toArray⟩, iv, kv] 54) := ⟨_, rfl⟩
 have HZ : Hid (Below w.heap.size w wz /\ w.heap.size ≤ wz.heap.size) := Lib.hid (by rw [hwz]; exact ⟨(Below.refl _ _).alloc (Nat.le_refl _) _, by simp⟩)
 have HBX : Hid (wz.heap[w.heap.size]? = some (.cells #[.int .i64 h.kind, .int .i64 h.num, .string ⟨h.text.toArray⟩, iv, kv] 54)) := Lib.hid (by rw [hwz]; exact heap_alloc_new _ _)
 have HC : Hid (Calls Tryz.prog 139 #[.agg #[.int .i64 h.kind, .int .i64 h.num, .string ⟨h.text.toArray⟩, iv, kv], .int .i64 1] wz (OfPost 1 h k S wz)) := Lib.hid (ofs_any k.sz 1 h k iv kv S wz (Nat.le_refl _) (by decide) hok.1 hfit (htv.kept fun p hp => HZ.out.1.cell (hS _ hp)) (fun b hb => by have := hS b hb; have := HZ.out.2; omega) (hst.below HZ.out.1))
 have HST := Lib.hid hst
 have HS := Lib.hid hS
 have HOK := Lib.hid hok
 have HAK := Lib.hid hak
 have HLEN := Lib.hid hlen
 clear hok hak hfit htv hS hst hlen
 go_enter Tryz.func42, Tryz.ntmps42
 go_wp2_with fail
 rw [<- hwz]
 clear hwz
 refine HC.out.mono ?_
 rintro x w1 (⟨hw0, u, S', rfl, htu, hS', hb1⟩ | ⟨hw0, u, rfl, hb1⟩)
 . obtain ⟨T0, y0, rfl⟩ := htu.iface
   have HW0 := Lib.hid hw0
   have HSS : Hid (∀ b, S' b -> b < w1.heap.size) := Lib.hid (fun b hb => by
     rcases hS' b hb with h1 | h1
     . have := HS.out b h1; have := HZ.out.2; have := hb1.size; omega
     . exact h1.2)
   have HBW : Hid (Below w.heap.size w w1) := Lib.hid (HZ.out.1.trans (hb1.mono HZ.out.2))
   obtain ⟨w2, hw2⟩ : ∃ w2, w2 = w1.alloc (.cells #[.pointer none, .slice none 0 0] 196) := ⟨_, rfl⟩
   have HB2 : Hid (Below w1.heap.size w1 w2) := Lib.hid (by rw [hw2]; exact (Below.refl _ _).alloc (Nat.le_refl _) _)
   have HBD : Hid (Bd w1.heap.size [] w2) := Lib.hid (by rw [hw2]; exact Bd.fresh w1)
   have HF : Hid (form (trimH h) (trimK h k) = form h k) := Lib.hid (form_trim hw0)
   have hnb : 11 ≤ w1.heap.size := by have := HST.out.size; have := HBW.out.size; omega
   have HWR := Lib.hid (wr_any _ 1 (trimH h) (trimK h k) (.iface T0 y0) S' w1.heap.size [] w2 (Nat.le_refl _) (trimH_trim h) (trimK_trim h k) (by rw [wrongs_trim]; exact hw0) HOK.out.trim (All_trimK HAK.out) (htu.kept fun p hp => HB2.out.cell (HSS.out _ hp)) HSS.out hnb HBD.out ((HST.out.below HBW.out).below HB2.out) (by rw [HF.out]; simpa using HLEN.out hw0))
   rw [HF.out, List.nil_append] at HWR
   clear htu hS' hb1 hw0 HC
   go_wp2_with fail
   rw [<- hw2]
   clear hw2
   refine HWR.out.mono ?_
   rintro x w3 ⟨rfl, hB3, hk3⟩
   have HB3 := Lib.hid hB3
   have HK3 : Hid (Below w.heap.size w w3) := Lib.hid (HBW.out.trans ((HB2.out.trans hk3.below).mono HBW.out.size))
   clear hB3 hk3 HWR
   have HLN := Lib.hid (len_b _ _ w3 HB3.out)
   go_wp2_with fail
   refine HLN.out.mono ?_
   rintro x w4 ⟨rfl, rfl⟩
   by_cases hl : 4194304 < (form h k).length
   . have hpos : ((4194304 : Int) < ((form h k).length : Int)) = True := eq_true (by omega)
     have HP : Hid ((printed h k).2 = 5) := Lib.hid (by unfold printed; rw [if_neg (by rw [HW0.out]; simp), if_pos hl])
     clear hl
     go_wp2
     go_ret2
     exact ⟨HK3.out, .inr ⟨by rw [HP.out]; decide, by rw [HP.out]; rfl⟩⟩
   . have hpos : ((4194304 : Int) < ((form h k).length : Int)) = False := eq_false (by omega)
     have HP : Hid ((printed h k).2 = 0) := Lib.hid (by unfold printed; rw [if_neg (by rw [HW0.out]; simp), if_neg hl])
     have HSG := Lib.hid (string_b _ _ w3 HB3.out)
     clear hl
     go_wp2_with fail
     refine HSG.out.mono ?_
     rintro x w5 ⟨rfl, _, hk5⟩
     have HK5 : Hid (Below w.heap.size w w5) := Lib.hid (HK3.out.trans (hk5.below.mono HBW.out.size))
     clear hk5 HSG
     go_wp2
     go_ret2
     exact ⟨HK5.out, .inl ⟨HP.out, rfl⟩⟩
 . have HP : Hid ((printed h k).2 = wrongs 1 h k) := Lib.hid (by unfold printed; rw [if_pos hw0])
   have HB1 : Hid (Below w.heap.size w w1) := Lib.hid (HZ.out.1.trans (hb1.mono HZ.out.2))
   have HW0 := Lib.hid hw0
   clear hb1 hw0
   unfold errnoV
   go_wp2
   go_ret2
   exact ⟨HB1.out, .inr ⟨by rw [HP.out]; exact HW0.out, by rw [HP.out]; rfl⟩⟩
end Js
end Go.Proofs.YtjohdaobhonioaaGreatDoor
